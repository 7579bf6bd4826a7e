/- Trees, plain law: the places of nodes; what a write makes anew. -/
import Derived.Test.YtogmdfbamgjjfaaH25
set_option linter.unusedVariables false
set_option linter.unusedSimpArgs false
namespace Go.Proofs.Ytogmdfbamgjjfaa.T
open Go Go.RowKit Go.Proofs

structure Pl where
  lv : Nat
  base : Nat
  id : Nat
  birth : Nat
  data : List Int
def plc : Nat → Nat → Tr → List Pl
  | _, _, .nil => []
  | 0, base, .nd id bi _ ds => [⟨0, base, id, bi, datL ds⟩]
  | l + 1, base, .nd id bi k _ => ⟨l + 1, base, id, bi, []⟩ :: (plc l base (k 0) ++ plc l (base + room l) (k 1) ++ plc l (base + 2 * room l) (k 2) ++ plc l (base + 3 * room l) (k 3))
theorem plc_nil (l base : Nat) : plc l base .nil = [] := by cases l <;> rfl
theorem plc_mem {l base id bi : Nat} {k : Nat → Tr} {ds : Nat → Int} {p : Pl} : p ∈ plc (l + 1) base (.nd id bi k ds) ↔ p = ⟨l + 1, base, id, bi, []⟩ ∨ ∃ i, i < 4 ∧ p ∈ plc l (base + i * room l) (k i) := by
  simp only [plc, List.mem_cons, List.mem_append]
  constructor
  · rintro (h | ((h | h) | h) | h)
    · exact .inl h
    · exact .inr ⟨0, by omega, by simpa using h⟩
    · exact .inr ⟨1, by omega, by simpa using h⟩
    · exact .inr ⟨2, by omega, h⟩
    · exact .inr ⟨3, by omega, h⟩
  · rintro (h | ⟨i, hi, h⟩)
    · exact .inl h
    · right
      match i, hi with
      | 0, _ => exact .inl (.inl (.inl (by simpa using h)))
      | 1, _ => exact .inl (.inl (.inr (by simpa using h)))
      | 2, _ => exact .inl (.inr h)
      | 3, _ => exact .inr h
theorem plc_in : ∀ {l base b : Nat} {t : Tr} {p : Pl}, Gd (l + 1) b t → p ∈ plc l base t → base ≤ p.base ∧ p.base + room p.lv ≤ base + room l ∧ p.lv ≤ l ∧ p.birth ≤ b
  | l, base, b, .nil, p, _, h => by rw [plc_nil] at h; cases h
  | 0, base, b, .nd id bi k ds, p, g, h => by
    simp only [plc, List.mem_singleton] at h; subst h
    exact ⟨Nat.le_refl _, Nat.le_refl _, Nat.le_refl _, g.1⟩
  | l + 1, base, b, .nd id bi k ds, p, g, h => by
    rcases plc_mem.1 h with rfl | ⟨i, hi, h⟩
    · exact ⟨Nat.le_refl _, Nat.le_refl _, Nat.le_refl _, g.1⟩
    · obtain ⟨a, b2, c, d⟩ := plc_in (g.2 i hi) h
      have e := room_succ l
      have f : (i + 1) * room l ≤ 4 * room l := Nat.mul_le_mul_right _ (by omega)
      rw [Nat.add_mul, Nat.one_mul] at f
      have := g.1
      exact ⟨by omega, by omega, by omega, by omega⟩

def Tch (off n : Nat) (p : Pl) : Prop := p.base < off + n ∧ off < p.base + room p.lv
theorem wr_plc {now off : Nat} {bs : List Int} : ∀ {l base b m : Nat} {t : Tr} {p : Pl}, Gd (l + 1) b t → p ∈ plc l base (wr now off bs l base t m).1 → (Tch off bs.length p → p.birth = now) ∧ (¬ Tch off bs.length p → p ∈ plc l base t)
  | 0, base, b, m, t, p, g, h => by
    unfold wr at h
    split at h
    · rename_i c
      have := plc_in g h
      exact ⟨fun q => by unfold Tch at q; omega, fun _ => h⟩
    · rename_i c
      simp only [plc, List.mem_singleton] at h; subst h
      exact ⟨fun _ => rfl, fun q => absurd (by unfold Tch; simp only; omega) q⟩
  | l + 1, base, b, m, t, p, g, h => by
    unfold wr at h
    split at h
    · rename_i c
      have := plc_in g h
      exact ⟨fun q => by unfold Tch at q; omega, fun _ => h⟩
    · rename_i c
      rcases plc_mem.1 h with rfl | ⟨i, hi, h⟩
      · exact ⟨fun _ => rfl, fun q => absurd (by unfold Tch; simp only; omega) q⟩
      · rw [fold_get, if_pos hi] at h
        obtain ⟨a1, a2⟩ := wr_plc (g.kid hi) h
        refine ⟨a1, fun q => ?_⟩
        have := a2 q
        cases t with
        | nil => simp only [Tr.kids] at this; rw [plc_nil] at this; cases this
        | nd id bi k ds => exact plc_mem.2 (.inr ⟨i, hi, this⟩)
theorem rs_plc {now : Nat} : ∀ (d L m : Nat) (t : Tr) (p : Pl), p ∈ plc (L + d) 0 (rs now d t m).1 → (L < p.lv ∧ p.birth = now) ∨ p ∈ plc L 0 t
  | 0, L, m, t, p, h => .inr h
  | d + 1, L, m, t, p, h => by
    unfold rs at h
    rw [show L + (d + 1) = L + 1 + d by omega] at h
    rcases rs_plc d (L + 1) _ _ p h with ⟨a, b⟩ | h
    · exact .inl ⟨by omega, b⟩
    · rcases plc_mem.1 h with rfl | ⟨i, hi, h⟩
      · exact .inl ⟨by simp only; omega, rfl⟩
      · by_cases c : i = 0
        · subst c; rw [up_same] at h; exact .inr (by simpa using h)
        · rw [up_ne c, plc_nil] at h; cases h

/-- What a write makes: which nodes are new, and where the others are from. -/
theorem wrV_plc {now off v0 m : Nat} {bs : List Int} {v : Vn} (w : VOk v0 v) (hb : v0 < now) {p : Pl} (h : p ∈ plc (lev (max v.s (off + bs.length))) 0 (wrV now off bs v m).1) {top : Nat} (ht : v.t ≠ .nil → top = lev v.s) :
    p.birth ≤ now ∧ (p.birth = now ↔ (Tch off bs.length p ∨ top < p.lv)) ∧ (p.birth ≠ now → p ∈ plc (lev v.s) 0 v.t) := by
  have hl := lev_mono (show v.s ≤ max v.s (off + bs.length) by omega)
  have g := rsN_gd now (d := lev (max v.s (off + bs.length)) - lev v.s) m (w.gd.mono (Nat.le_of_lt hb))
  rw [show lev v.s + 1 + (lev (max v.s (off + bs.length)) - lev v.s) = lev (max v.s (off + bs.length)) + 1 by omega] at g
  have g2 := wr_gd now off bs (lev (max v.s (off + bs.length))) 0 _ (rsN now (lev (max v.s (off + bs.length)) - lev v.s) v.t m).2 g
  unfold wrV at h
  have hle := (plc_in g2 h).2.2.2
  refine ⟨hle, ?_⟩
  obtain ⟨a1, a2⟩ := wr_plc g h
  by_cases c : Tch off bs.length p
  · exact ⟨⟨fun _ => .inl c, fun _ => a1 c⟩, fun q => absurd (a1 c) q⟩
  · have h2 := a2 c
    cases htt : v.t with
    | nil => rw [htt] at h2; simp only [rsN] at h2; rw [plc_nil] at h2; cases h2
    | nd id bi k ds =>
      have h3 : p ∈ plc (lev v.s + (lev (max v.s (off + bs.length)) - lev v.s)) 0 (rs now (lev (max v.s (off + bs.length)) - lev v.s) v.t m).1 := by
        rw [show lev v.s + (lev (max v.s (off + bs.length)) - lev v.s) = lev (max v.s (off + bs.length)) by omega]
        rw [htt] at h2 ⊢; exact h2
      have htop := ht (by rw [htt]; exact fun z => by cases z)
      rcases rs_plc _ _ _ _ _ h3 with ⟨b1, b2⟩ | h4
      · exact ⟨⟨fun _ => .inr (by omega), fun _ => b2⟩, fun q => absurd b2 q⟩
      · have h5 := plc_in w.gd h4
        refine ⟨⟨fun e => by omega, fun q => ?_⟩, fun _ => by rw [← htt]; exact h4⟩
        rcases q with q | q
        · exact absurd q c
        · omega

end Go.Proofs.Ytogmdfbamgjjfaa.T
