/- Drives: the plain laws. -/
import Derived.Test.YtbekpkapkaifiaaD9
set_option linter.unusedVariables false
set_option linter.unusedSimpArgs false
namespace Go.Proofs.Ytbekpkapkaifiaa.T
open Go Go.RowKit Go.Proofs

def Gd (s : DS) : Prop := s.dead = false ∧ s.plate.length = 8 ∧ (∀ c ∈ s.plate, c.broken = false ∧ ∀ d, c.data = some d → d.length = 128) ∧ ∀ w ∈ s.waits, w.1 < 8 ∧ w.2.length = 128
/-- What sector i holds on the plate; what one sees. -/
def plateV (P : List Sec) (i : Nat) : List Int := match P[i]? with | none => noughts 128 | some c => c.data.getD (noughts 128)
def V (s : DS) (i : Nat) : List Int := (lastL i s.waits).getD (plateV s.plate i)

theorem lastL_mem {i : Nat} {d : List Int} : ∀ {W : List (Nat × List Int)}, lastL i W = some d → (i, d) ∈ W
  | [], h => by simp [lastL] at h
  | w :: W, h => by
    simp only [lastL] at h
    cases hl : lastL i W with
    | some e => rw [hl] at h; simp at h; subst h; exact List.mem_cons_of_mem _ (lastL_mem hl)
    | none =>
      rw [hl] at h
      simp only [Option.orElse_none] at h
      by_cases c : w.1 = i
      · rw [if_pos c] at h
        obtain ⟨w1, w2⟩ := w
        simp at h c; subst h; subst c; exact List.mem_cons_self
      · rw [if_neg c] at h; simp at h
theorem plateV_len {s : DS} (g : Gd s) (i : Nat) : (plateV s.plate i).length = 128 := by
  unfold plateV
  cases hp : s.plate[i]? with
  | none => simp [noughts]
  | some c =>
    have := (g.2.2.1 c (List.mem_of_getElem? hp)).2
    show (c.data.getD (noughts 128)).length = 128
    cases hd : c.data with
    | none => exact List.length_replicate
    | some d => exact this d hd
theorem getL_good {s : DS} (g : Gd s) {i : Nat} (hi : i < 8) : getL s i = (0, V s i) ∧ (V s i).length = 128 := by
  obtain ⟨sc, hsc⟩ : ∃ sc, s.plate[i]? = some sc := ⟨_, List.getElem?_eq_getElem (by rw [g.2.1]; exact hi)⟩
  have hb := (g.2.2.1 sc (List.mem_of_getElem? hsc)).1
  unfold getL V
  cases hl : lastL i s.waits with
  | some d => exact ⟨rfl, (g.2.2.2 _ (lastL_mem hl)).2⟩
  | none =>
    refine ⟨?_, plateV_len g i⟩
    simp only [hsc, hb, plateV, Option.getD_none]
    rw [if_neg (by simp)]

def lastS (so : Nat → Bool) (i : Nat) : Nat → List (Nat × List Int) → Option (List Int)
  | _, [] => none
  | k, w :: W => (lastS so i (k + 1) W).orElse fun _ => if w.1 = i ∧ so k = true then some w.2 else none
theorem settle_get (so : Nat → Bool) (i : Nat) : ∀ (W : List (Nat × List Int)) (k : Nat) (P : List Sec), i < P.length → (settleL so W k P)[i]? = match lastS so i k W with | some d => some ⟨some d, false⟩ | none => P[i]?
  | [], k, P, _ => rfl
  | w :: W, k, P, h => by
    simp only [settleL, lastS]
    rw [settle_get so i W (k + 1) _ (by split <;> simpa using h)]
    cases hl : lastS so i (k + 1) W with
    | some d => rfl
    | none =>
      simp only [Option.orElse_none]
      by_cases c : so k = true
      · rw [if_pos c, List.getElem?_set]
        by_cases e : w.1 = i
        · rw [if_pos e, if_pos (by omega), if_pos ⟨e, c⟩]
        · rw [if_neg e, if_neg (fun q => e q.1)]
      · rw [if_neg c, if_neg (fun q => c q.2)]
theorem lastS_true (i : Nat) : ∀ (W : List (Nat × List Int)) (k : Nat), lastS (fun _ => true) i k W = lastL i W
  | [], _ => rfl
  | w :: W, k => by simp only [lastS, lastL, lastS_true i W, and_true]
theorem lastS_false (i : Nat) : ∀ (W : List (Nat × List Int)) (k : Nat), lastS (fun _ => false) i k W = none
  | [], _ => rfl
  | w :: W, k => by simp [lastS, lastS_false i W]
theorem lastS_mem {so : Nat → Bool} {i : Nat} {d : List Int} : ∀ {W : List (Nat × List Int)} {k : Nat}, lastS so i k W = some d → (i, d) ∈ W
  | [], k, h => by simp [lastS] at h
  | w :: W, k, h => by
    simp only [lastS] at h
    cases hl : lastS so i (k + 1) W with
    | some e => rw [hl] at h; simp at h; subst h; exact List.mem_cons_of_mem _ (lastS_mem hl)
    | none =>
      rw [hl] at h
      simp only [Option.orElse_none] at h
      by_cases c : w.1 = i ∧ so k = true
      · rw [if_pos c] at h
        obtain ⟨w1, w2⟩ := w
        have := c.1
        simp at h this; subst h; subst this; exact List.mem_cons_self
      · rw [if_neg c] at h; simp at h
theorem settle_mem (so : Nat → Bool) : ∀ (W : List (Nat × List Int)) (k : Nat) (P : List Sec) (c : Sec), c ∈ settleL so W k P → c ∈ P ∨ ∃ w ∈ W, c = ⟨some w.2, false⟩
  | [], k, P, c, h => .inl h
  | w :: W, k, P, c, h => by
    simp only [settleL] at h
    rcases settle_mem so W (k + 1) _ c h with q | ⟨x, hx, q⟩
    · by_cases s : so k = true
      · rw [if_pos s] at q
        rcases List.mem_or_eq_of_mem_set q with q | q
        · exact .inl q
        · exact .inr ⟨w, List.mem_cons_self, q⟩
      · rw [if_neg s] at q; exact .inl q
    · exact .inr ⟨x, List.mem_cons_of_mem _ hx, q⟩
theorem settle_gd {s : DS} (g : Gd s) (so : Nat → Bool) : Gd ⟨settleL so s.waits 0 s.plate, [], s.dead⟩ := by
  refine ⟨g.1, by rw [settleL_len]; exact g.2.1, fun c hc => ?_, fun w hw => by cases hw⟩
  rcases settle_mem so _ _ _ _ hc with q | ⟨w, hw, rfl⟩
  · exact g.2.2.1 c q
  · exact ⟨rfl, fun d hd => by simp at hd; subst hd; exact (g.2.2.2 w hw).2⟩
theorem settle_plateV (so : Nat → Bool) {s : DS} (g : Gd s) {i : Nat} (hi : i < 8) : plateV (settleL so s.waits 0 s.plate) i = (lastS so i 0 s.waits).getD (plateV s.plate i) := by
  unfold plateV
  rw [settle_get so i _ _ _ (by rw [g.2.1]; exact hi)]
  cases lastS so i 0 s.waits <;> rfl

theorem fresh_gd : Gd (freshL 8) := ⟨rfl, by simp [freshL], fun c hc => by simp only [freshL] at hc; rw [List.eq_of_mem_replicate hc]; exact ⟨rfl, fun d h => by simp at h⟩, fun w hw => by simp [freshL] at hw⟩
theorem fresh_V (i : Nat) : V (freshL 8) i = noughts 128 := by
  unfold V plateV freshL
  simp only [lastL, Option.getD_none]
  cases h : (List.replicate 8 (⟨none, false⟩ : Sec))[i]? with
  | none => rfl
  | some c => rw [List.eq_of_mem_replicate (List.mem_of_getElem? h)]; rfl

/-- Jobs of the harmless kinds. -/
def JobG (j : Job) : Prop := (j.kind = 1 ∧ 0 ≤ j.at_ ∧ j.at_ < 8 ∧ j.data.length = 128) ∨ (j.kind = 2 ∧ 0 ≤ j.at_ ∧ j.at_ < 8) ∨ j.kind = 3 ∨ j.kind = 4 ∨ (j.kind = 6 ∧ 0 ≤ j.at_ ∧ j.at_ < 8 ∧ j.data.length = 128)
theorem JobG.ok {j : Job} (g : JobG j) : JobOk 8 j := by
  rcases g with q | q | q | q | q
  · exact .inl q
  · exact .inr (.inl q)
  · exact .inr (.inr (.inl q))
  · exact .inr (.inr (.inr (.inl q)))
  · exact .inr (.inr (.inr (.inr (.inr (.inl q)))))
theorem do_gd {s : DS} (g : Gd s) {j : Job} (q : JobG j) : Gd (doL s j).1 := by
  unfold doL
  rw [if_neg (by rw [g.1]; simp)]
  rcases q with ⟨k, a1, a2, a3⟩ | ⟨k, a1, a2⟩ | k | k | ⟨k, a1, a2, a3⟩ <;> simp only [k]
  · refine ⟨g.1, g.2.1, g.2.2.1, fun w hw => ?_⟩
    rcases List.mem_append.1 hw with hw | hw
    · exact g.2.2.2 w hw
    · simp at hw; subst hw; exact ⟨by simp only; omega, a3⟩
  · exact g
  · exact settle_gd g _
  · exact settle_gd g _
  · refine ⟨g.1, by simpa using g.2.1, fun c hc => ?_, g.2.2.2⟩
    rcases List.mem_or_eq_of_mem_set hc with hc | rfl
    · exact g.2.2.1 c hc
    · exact ⟨rfl, fun d hd => by simp at hd; subst hd; exact a3⟩
theorem st_gd : ∀ {js : List Job} {s : DS}, Gd s → (∀ j ∈ js, JobG j) → Gd (stL s js)
  | [], s, g, _ => g
  | j :: js, s, g, h => by
    show Gd (stL (doL s j).1 js)
    exact st_gd (do_gd g (h j List.mem_cons_self)) (fun x hx => h x (List.mem_cons_of_mem _ hx))

theorem do1 {s : DS} (g : Gd s) {j : Job} (k : j.kind = 1) : (doL s j).1 = ⟨s.plate, s.waits ++ [(j.at_.toNat, j.data)], s.dead⟩ := by
  unfold doL; rw [if_neg (by rw [g.1]; simp)]; simp only [k]; simp
theorem do2 {s : DS} (g : Gd s) {j : Job} (k : j.kind = 2) : (doL s j).1 = s := by
  unfold doL; rw [if_neg (by rw [g.1]; simp)]; simp only [k]; simp
theorem do3 {s : DS} (g : Gd s) {j : Job} (k : j.kind = 3) : (doL s j).1 = ⟨settleL (fun _ => true) s.waits 0 s.plate, [], s.dead⟩ := by
  unfold doL; rw [if_neg (by rw [g.1]; simp)]; simp only [k]; simp
theorem do4 {s : DS} (g : Gd s) {j : Job} (k : j.kind = 4) : (doL s j).1 = ⟨settleL (keepS j.keep) s.waits 0 s.plate, [], s.dead⟩ := by
  unfold doL; rw [if_neg (by rw [g.1]; simp)]; simp only [k]; simp

theorem V_put {s : DS} {i a : Nat} {d : List Int} : V ⟨s.plate, s.waits ++ [(a, d)], s.dead⟩ i = if a = i then d else V s i := by
  unfold V
  simp only [lastL_snoc]
  split <;> simp
theorem V_flush {s : DS} (g : Gd s) {i : Nat} (hi : i < 8) : V ⟨settleL (fun _ => true) s.waits 0 s.plate, [], s.dead⟩ i = V s i := by
  unfold V
  simp only [lastL, Option.getD_none]
  rw [settle_plateV _ g hi, lastS_true]
theorem V_crash {s : DS} (g : Gd s) (so : Nat → Bool) {i : Nat} (hi : i < 8) : V ⟨settleL so s.waits 0 s.plate, [], s.dead⟩ i = (lastS so i 0 s.waits).getD (plateV s.plate i) := by
  unfold V
  simp only [lastL, Option.getD_none]
  rw [settle_plateV _ g hi]

end Go.Proofs.Ytbekpkapkaifiaa.T
