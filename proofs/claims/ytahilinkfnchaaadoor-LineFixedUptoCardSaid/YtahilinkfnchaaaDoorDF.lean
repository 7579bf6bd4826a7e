/- Desk, plain: what is told is heard. -/
import Derived.Test.YtahilinkfnchaaaDoorDE
set_option linter.unusedVariables false
set_option linter.unusedSimpArgs false
namespace Go.Proofs.YtahilinkfnchaaaDoor.T
open Go Go.RowKit Go.Proofs
set_option maxRecDepth 10000

structure Tld.In (t : Tld) : Prop where
  c1 : -9223372036854775808 ≤ t.code
  c2 : t.code ≤ 9223372036854775807
  s1 : -9223372036854775808 ≤ t.size
  s2 : t.size ≤ 9223372036854775807
  nb : ∀ x ∈ t.names, (32 : UInt8) ∉ x.data.toList
  hd : t.done = false → t.names.head? ≠ some doneB
theorem head_nb (t : Tld) : ∀ w ∈ headW t, (32 : UInt8) ∉ w := by
  intro w hw
  unfold headW at hw
  split at hw
  · simp at hw; subst hw; decide
  · simp at hw
    rcases hw with rfl | rfl
    · decide
    · exact itoa_nb _
theorem tellW_nb {t : Tld} (h : t.In) : ∀ w ∈ tellW t, (32 : UInt8) ∉ w := by
  intro w hw
  unfold tellW midW at hw
  simp only [List.mem_append, List.mem_cons, List.mem_nil_iff, or_false, List.mem_map] at hw
  rcases hw with ((hw | rfl | rfl) | hw) | ⟨x, hx, rfl⟩
  · exact head_nb t w hw
  · exact itoa_nb _
  · exact hex_nb _
  · split at hw
    · simp at hw; subst hw; decide
    · cases hw
  · exact h.nb x hx
theorem tellW_ne (t : Tld) : tellW t ≠ [] := by
  unfold tellW midW headW; split <;> simp
theorem map_dB (l : List ByteArray) : (l.map (·.data.toList)).map B = l := by
  rw [List.map_map]
  conv => rhs; rw [← List.map_id l]
  exact List.map_congr_left fun w _ => B_of w
theorem doneW_B : B doneW = doneB := rfl
theorem toldT_mid {t : Tld} (h : t.In) (w : List UInt8) : toldT t.code (w :: Lib.itoa t.size :: hexL t.data :: ((if t.done = true then [doneW] else []) ++ t.names.map (·.data.toList))) = t := by
  unfold toldT
  rw [if_pos (by simp)]
  simp only [List.drop_succ_cons, List.drop_zero, List.getD_cons_succ, List.getD_cons_zero]
  rw [numL_itoa _ h.s1 h.s2, unhex_hex]
  cases hd : t.done
  · have hh := h.hd hd
    have e : decide (((if false = true then [doneW] else []) ++ t.names.map (·.data.toList)).head? = some doneW) = false := by
      simp only [Bool.false_eq_true, if_false, List.nil_append, List.head?_map]
      rw [decide_eq_false]
      intro q
      obtain ⟨x, hx, hx2⟩ := Option.map_eq_some_iff.1 q
      exact hh (by rw [hx, ← doneW_B, ← hx2, B_of])
    rw [e]
    simp only [Bool.false_eq_true, if_false, List.nil_append, Option.getD_some, map_dB]
    cases t; simp_all
  · simp only [if_true, List.singleton_append, List.head?_cons, decide_true, List.drop_succ_cons, List.drop_zero, Option.getD_some, map_dB]
    cases t; simp_all
theorem told_words {t : Tld} (h : t.In) : toldL (tellW t) = t := by
  unfold toldL
  by_cases c : t.code = 0
  · have e : tellW t = okW :: Lib.itoa t.size :: hexL t.data :: ((if t.done = true then [doneW] else []) ++ t.names.map (·.data.toList)) := by
      unfold tellW midW headW; rw [if_pos c]; simp
    rw [e, if_neg (fun q => by simp [okW, noW] at q)]
    have := toldT_mid h okW
    rw [c] at this; exact this
  · have e : tellW t = noW :: Lib.itoa t.code :: Lib.itoa t.size :: hexL t.data :: ((if t.done = true then [doneW] else []) ++ t.names.map (·.data.toList)) := by
      unfold tellW midW headW; rw [if_neg c]; simp
    rw [e, if_pos ⟨rfl, by simp⟩]
    simp only [List.drop_succ_cons, List.drop_zero, List.getD_cons_succ, List.getD_cons_zero]
    rw [numL_itoa _ h.c1 h.c2]
    exact toldT_mid h _
structure Tld.Good (t : Tld) : Prop where
  c1 : 0 ≤ t.code
  c2 : t.code ≤ 9223372036854775807
  s1 : 0 ≤ t.size
  s2 : t.size ≤ 9223372036854775807
  od : t.names.any oddN = false
theorem good_nb {s : ByteArray} (h : goodName s = true) : (32 : UInt8) ∉ s.data.toList := by
  intro q
  unfold goodName byts at h
  simp only [Bool.and_eq_true, List.all_eq_true, List.mem_map, forall_exists_index, and_imp, forall_apply_eq_imp_iff₂] at h
  have := h.1.1 32 q
  simp [okByte] at this
theorem odd_good {s : ByteArray} (h : oddN s = false) : goodName s = true ∧ s ≠ doneB := by
  unfold oddN at h
  simp only [Bool.or_eq_false_iff, decide_eq_false_iff_not, Bool.not_eq_false'] at h
  exact h
theorem Tld.Good.inn {t : Tld} (h : t.Good) : t.In := by
  have od := h.od
  rw [List.any_eq_false] at od
  have hx : ∀ x ∈ t.names, goodName x = true ∧ x ≠ doneB := fun x hx => odd_good (by simpa using od x hx)
  refine ⟨by have := h.c1; omega, h.c2, by have := h.s1; omega, h.s2, fun x hx' => good_nb (hx x hx').1, fun _ q => ?_⟩
  exact (hx doneB (List.mem_of_mem_head? q)).2 rfl
theorem Tld.Good.told {t : Tld} (h : t.Good) : tellP t = some (joinW (tellW t)) := by
  unfold tellP
  rw [if_neg (by have := h.c1; omega), if_neg (by have := h.s1; omega), if_neg (by rw [h.od]; simp)]
theorem heard {t : Tld} (h : t.Good) : hearP (joinW (tellW t)) = some t := by
  unfold hearP
  rw [cutW_join _ (tellW_ne t) (tellW_nb h.inn), told_words h.inn, h.told, if_pos rfl]
theorem heard_done {t : Tld} (h : t.Good) : (hearP (joinW (tellW t) ++ 32 :: doneW)).isSome = (!t.done && t.names.isEmpty) ∧ toldL (cutW (joinW (tellW t) ++ 32 :: doneW)) = (if t.done = false ∧ t.names = [] then { t with done := true } else { t with names := t.names ++ [doneB] }) := by
  rw [cutW_snoc _ (tellW_ne t)]
  by_cases c : t.done = false ∧ t.names = []
  · rw [if_pos c]
    have g : Tld.Good { t with done := true } := ⟨h.c1, h.c2, h.s1, h.s2, h.od⟩
    have e : tellW t ++ [doneW] = tellW { t with done := true } := by
      unfold tellW midW headW; simp [c.1, c.2]
    rw [e]
    have e2 : toldL (cutW (joinW (tellW { t with done := true }))) = { t with done := true } := by rw [cutW_join _ (tellW_ne _) (tellW_nb g.inn), told_words g.inn]
    refine ⟨by rw [heard g]; simp [c.1, c.2], e2⟩
  · rw [if_neg c]
    have g : Tld.In { t with names := t.names ++ [doneB] } := by
      have q := h.inn
      refine ⟨q.c1, q.c2, q.s1, q.s2, fun x hx => ?_, fun hd => ?_⟩
      · rcases List.mem_append.1 hx with hx | hx
        · exact q.nb x hx
        · simp at hx; subst hx; decide
      · have hne : t.names ≠ [] := fun e => c ⟨hd, e⟩
        have := q.hd hd
        simp only
        cases hn : t.names with
        | nil => exact absurd hn hne
        | cons x xs => rw [hn] at this; simpa using this
    have e : tellW t ++ [doneW] = tellW { t with names := t.names ++ [doneB] } := by
      unfold tellW midW headW; simp; rfl
    rw [e]
    have e2 : toldL (cutW (joinW (tellW { t with names := t.names ++ [doneB] }))) = { t with names := t.names ++ [doneB] } := by rw [cutW_join _ (tellW_ne _) (tellW_nb g), told_words g]
    refine ⟨?_, e2⟩
    have hno : tellP { t with names := t.names ++ [doneB] } = none := by
      unfold tellP
      have ho : (t.names ++ [doneB]).any oddN = true := by
        rw [List.any_append]
        have : oddN doneB = true := by simp [oddN]
        simp [this]
      simp only [ho, if_true]
      split
      · rfl
      · split <;> rfl
    unfold hearP
    rw [e2, hno, if_neg (by simp)]
    cases hd : t.done
    · have : t.names ≠ [] := fun e => c ⟨hd, e⟩
      cases hn : t.names with
      | nil => exact absurd hn this
      | cons x xs => rfl
    · rfl
end Go.Proofs.YtahilinkfnchaaaDoor.T
