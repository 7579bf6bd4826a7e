/- DriveStays. -/
import Derived.Test.YtbekpkapkaifiaaD13
set_option linter.unusedVariables false
set_option linter.unusedSimpArgs false
namespace Go.Proofs.Ytbekpkapkaifiaa.T
open Go Go.RowKit Go.Proofs

def wrs (i : Nat) (j : Job) : Prop := j.kind = 1 ∧ j.at_ = (i : Int)
instance (i : Nat) (j : Job) : Decidable (wrs i j) := by unfold wrs; infer_instance

/-- What the loop over the jobs of the second part learns of sector i. -/
theorem stays_loop3 {f : Nat} (hf : 1010 ≤ f) {Y : YldF} {h : AHeap} {n0 i : Nat} (hi : i < 8) {xa ba aa : Option (Nat × Nat)} {xc bc ac : Bool} {jobs : List Job} (w : JRows h n0 xa jobs) (hj : jobs.length ≤ 1000) {B A : List (List Int)} (wb : BytL h n0 ba B) (hB : B.length = 8) (wa : BytL h n0 aa A) (hA : A.length = 8) {bi ai : List Int} (hbi : B[i]? = some bi) (hai : A[i]? = some ai) (bl : bi.length ≤ 1000) (ok : ∀ j ∈ jobs, j.data.length ≤ 1000)
    (c1 : (∀ j ∈ jobs, ¬ wrs i j) → bi = ai) (c2 : bi = ai ∨ ∃ j ∈ jobs, wrs i j ∧ j.data = ai) {n0' : Nat}
    (next : ∀ nx, n0 ≤ nx → ∃ h' nx', F4_L2 (callP Try.prog keepT f) Y f n0' xa jobs.length xc ba 8 bc aa 8 ac ((i + 1 : Nat) : Int) h nx = some (.bool true, h', nx')) (d : Nat) :
    ∀ (lf k nx : Nat) (t u : Bool), k + d = jobs.length → d < lf → n0 ≤ nx → (t = true ↔ ∃ j ∈ jobs.take k, wrs i j) → (u = true ↔ bi = ai ∨ ∃ j ∈ jobs.take k, wrs i j ∧ j.data = ai) →
      ∃ h' nx', F4_L3 (callP Try.prog keepT f) Y f n0' lf xa jobs.length xc ba 8 bc aa 8 ac (i : Int) t u (k : Int) h nx = some (.bool true, h', nx') := by
  induction d with
  | zero =>
    intro lf k nx t u e hl hn ht hu
    obtain ⟨lf, rfl⟩ : ∃ m, lf = m + 1 := ⟨lf - 1, by omega⟩
    obtain rfl : k = jobs.length := by omega
    rw [List.take_length] at ht hu
    obtain rfl : u = true := hu.2 c2
    rw [F4_L3_eq, if_neg (by rw [decide_eq_true_eq]; omega)]
    cases t with
    | true =>
      rw [if_neg (by decide), if_neg (by decide), wsucc (by omega)]
      exact next _ (by omega)
    | false =>
      have hba : bi = ai := c1 (fun j hj q => absurd (ht.2 ⟨j, hj, q⟩) (by decide))
      obtain ⟨r1, ⟨w1, rfl, a1, cc1, rfl, s1, _⟩, _, rd1⟩ := wb.read0 (R := Res) hbi (by omega)
      obtain ⟨r2, ⟨w2, rfl, a2, cc2, rfl, s2, _⟩, _, rd2⟩ := wa.read0 (R := Res) hai (by omega)
      rw [hB] at rd1
      rw [hA] at rd2
      rw [if_pos (by decide), rd1 _ _ rfl]
      simp only [bind_some', asI_int, asB_bool, asStr_str, asP_ptr, asSl_sl, asAgg_1, asAgg_2, asAgg_3, asAgg_4, asTup_0, asTup_2, asTup_3, asTup_4, if_true', if_false', if_not_true', if_not_false', getD_0, getD_1, getD_2, getD_3]
      rw [rd2 _ _ rfl]
      simp only [bind_some', asI_int, asB_bool, asStr_str, asP_ptr, asSl_sl, asAgg_1, asAgg_2, asAgg_3, asAgg_4, asTup_0, asTup_2, asTup_3, asTup_4, if_true', if_false', if_not_true', if_not_false', getD_0, getD_1, getD_2, getD_3]
      obtain ⟨m1, l1, g1⟩ := same_spec hf Y cc1 cc2 s1 s2 bl (nx + 22)
      rw [g1, decide_eq_true hba]
      simp only [bind_some', asI_int, asB_bool, asStr_str, asP_ptr, asSl_sl, asAgg_1, asAgg_2, asAgg_3, asAgg_4, asTup_0, asTup_2, asTup_3, asTup_4, if_true', if_false', if_not_true', if_not_false', getD_0, getD_1, getD_2, getD_3]
      rw [wsucc (by omega)]
      exact next _ (by omega)
  | succ d ih =>
    intro lf k nx t u e hl hn ht hu
    obtain ⟨lf, rfl⟩ : ∃ m, lf = m + 1 := ⟨lf - 1, by omega⟩
    have hk : k < jobs.length := by omega
    obtain ⟨r, pr, _, _, rd⟩ := w.read (R := Res) (List.getElem?_eq_getElem hk)
    obtain ⟨r0, pr0, _, rd0⟩ := w.read0 (R := Res) (List.getElem?_eq_getElem hk) (by omega)
    have okj := ok _ (List.getElem_mem hk)
    have htk : jobs.take (k + 1) = jobs.take k ++ [jobs[k]] := by rw [List.take_add_one, List.getElem?_eq_getElem hk]; rfl
    generalize jobs[k] = j at *
    have ex : ∀ P : Job → Prop, (∃ x ∈ jobs.take (k + 1), P x) ↔ ((∃ x ∈ jobs.take k, P x) ∨ P j) := fun P => by
      rw [htk]
      constructor
      · rintro ⟨x, hx, p⟩
        rcases List.mem_append.1 hx with hx | hx
        · exact .inl ⟨x, hx, p⟩
        · simp at hx; subst hx; exact .inr p
      · rintro (⟨x, hx, p⟩ | p)
        · exact ⟨x, List.mem_append.2 (.inl hx), p⟩
        · exact ⟨j, List.mem_append.2 (.inr (by simp)), p⟩
    obtain ⟨v0, rfl, _⟩ := pr0
    obtain ⟨v, rfl, a, c, rfl, sl, _⟩ := pr
    rw [F4_L3_eq, if_pos (decide_eq_true (by omega)), rd0 _ _ rfl]
    simp only [bind_some', asI_int, asB_bool, asStr_str, asP_ptr, asSl_sl, asAgg_1, asAgg_2, asAgg_3, asAgg_4, asTup_0, asTup_2, asTup_3, asTup_4, if_true', if_false', if_not_true', if_not_false', getD_0, getD_1, getD_2, getD_3]
    have skip : ¬ wrs i j → ∀ nx, n0 ≤ nx → ∃ h' nx', F4_L3 (callP Try.prog keepT f) Y f n0' lf xa jobs.length xc ba 8 bc aa 8 ac (i : Int) t u ((k + 1 : Nat) : Int) h nx = some (.bool true, h', nx') := fun q nx hn => by
      refine ih lf (k + 1) nx t u (by omega) (by omega) hn ?_ ?_
      · rw [ht, ex]; exact ⟨.inl, fun z => z.resolve_right q⟩
      · rw [hu, ex]; exact ⟨fun z => z.imp id .inl, fun z => z.imp id fun z => z.resolve_right (fun y => q y.1)⟩
    by_cases k1 : j.kind = 1
    · rw [if_pos (by simp [k1]), rd 1 (.int .i64 j.at_) _ (by omega) rfl]
      simp only [bind_some', asI_int, asB_bool, asStr_str, asP_ptr, asSl_sl, asAgg_1, asAgg_2, asAgg_3, asAgg_4, asTup_0, asTup_2, asTup_3, asTup_4, if_true', if_false', if_not_true', if_not_false', getD_0, getD_1, getD_2, getD_3]
      by_cases k2 : j.at_ = (i : Int)
      · rw [if_pos (by simp [k2])]
        have hw : wrs i j := ⟨k1, k2⟩
        cases u with
        | true =>
          rw [if_true', wsucc (by omega)]
          refine ih lf (k + 1) _ true true (by omega) (by omega) (by omega) ?_ ?_
          · rw [ex]; simp [hw]
          · rw [ex]; simp only [true_iff]; exact (hu.1 rfl).imp id .inl
        | false =>
          rw [if_false', rd 3 (.slice a j.data.length c) _ (by omega) rfl]
          simp only [bind_some', asI_int, asB_bool, asStr_str, asP_ptr, asSl_sl, asAgg_1, asAgg_2, asAgg_3, asAgg_4, asTup_0, asTup_2, asTup_3, asTup_4, if_true', if_false', if_not_true', if_not_false', getD_0, getD_1, getD_2, getD_3]
          obtain ⟨r2, ⟨w2, rfl, a2, cc2, rfl, s2, _⟩, _, rd2⟩ := wa.read0 (R := Res) hai (by omega)
          rw [hA] at rd2
          rw [rd2 _ _ rfl]
          simp only [bind_some', asI_int, asB_bool, asStr_str, asP_ptr, asSl_sl, asAgg_1, asAgg_2, asAgg_3, asAgg_4, asTup_0, asTup_2, asTup_3, asTup_4, if_true', if_false', if_not_true', if_not_false', getD_0, getD_1, getD_2, getD_3]
          obtain ⟨m1, l1, g1⟩ := same_spec hf Y c cc2 sl s2 okj (nx + 34)
          rw [g1]
          simp only [bind_some', asI_int, asB_bool, asStr_str, asP_ptr, asSl_sl, asAgg_1, asAgg_2, asAgg_3, asAgg_4, asTup_0, asTup_2, asTup_3, asTup_4, if_true', if_false', if_not_true', if_not_false', getD_0, getD_1, getD_2, getD_3]
          rw [wsucc (by omega)]
          refine ih lf (k + 1) _ true (decide (j.data = ai)) (by omega) (by omega) (by omega) ?_ ?_
          · rw [ex]; simp [hw]
          · rw [ex, decide_eq_true_eq]
            have hu' : ¬ (bi = ai ∨ ∃ x ∈ jobs.take k, wrs i x ∧ x.data = ai) := fun z => absurd (hu.2 z) (by decide)
            constructor
            · exact fun z => .inr (.inr ⟨hw, z⟩)
            · rintro (z | z | z)
              · exact absurd (.inl z) hu'
              · exact absurd (.inr z) hu'
              · exact z.2
      · rw [if_neg (by simp [k2]), wsucc (by omega)]
        exact skip (fun q => k2 q.2) _ (by omega)
    · rw [if_neg (by simp [k1]), wsucc (by omega)]
      exact skip (fun q => k1 q.1) _ (by omega)

theorem stays_loop2 {f : Nat} (hf : 1010 ≤ f) {Y : YldF} {h : AHeap} {n0 : Nat} {xa ba aa : Option (Nat × Nat)} {xc bc ac : Bool} {jobs : List Job} (w : JRows h n0 xa jobs) (hj : jobs.length ≤ 1000) {B A : List (List Int)} (wb : BytL h n0 ba B) (hB : B.length = 8) (wa : BytL h n0 aa A) (hA : A.length = 8) (bl : ∀ x ∈ B, x.length ≤ 1000) (ok : ∀ j ∈ jobs, j.data.length ≤ 1000)
    (c : ∀ i bi ai, B[i]? = some bi → A[i]? = some ai → ((∀ j ∈ jobs, ¬ wrs i j) → bi = ai) ∧ (bi = ai ∨ ∃ j ∈ jobs, wrs i j ∧ j.data = ai)) (d : Nat) :
    ∀ (lf i nx : Nat), i + d = 8 → d < lf → n0 ≤ nx → ∃ h' nx', F4_L2 (callP Try.prog keepT f) Y f lf xa jobs.length xc ba 8 bc aa 8 ac (i : Int) h nx = some (.bool true, h', nx') := by
  induction d with
  | zero =>
    intro lf i nx e hl hn
    obtain ⟨lf, rfl⟩ : ∃ m, lf = m + 1 := ⟨lf - 1, by omega⟩
    rw [F4_L2_eq, if_neg (by rw [decide_eq_true_eq]; omega)]
    exact ⟨_, _, rfl⟩
  | succ d ih =>
    intro lf i nx e hl hn
    obtain ⟨lf, rfl⟩ : ∃ m, lf = m + 1 := ⟨lf - 1, by omega⟩
    obtain ⟨bi, hbi⟩ : ∃ bi, B[i]? = some bi := ⟨_, List.getElem?_eq_getElem (by omega)⟩
    obtain ⟨ai, hai⟩ : ∃ ai, A[i]? = some ai := ⟨_, List.getElem?_eq_getElem (by omega)⟩
    obtain ⟨c1, c2⟩ := c i bi ai hbi hai
    have bi1 := bl bi (List.mem_of_getElem? hbi)
    obtain ⟨r1, ⟨w1, rfl, a1, cc1, rfl, s1, _⟩, _, rd1⟩ := wb.read0 (R := Res) hbi (by omega)
    obtain ⟨r2, ⟨w2, rfl, a2, cc2, rfl, s2, _⟩, _, rd2⟩ := wa.read0 (R := Res) hai (by omega)
    rw [hB] at rd1
    rw [hA] at rd2
    rw [F4_L2_eq, if_pos (decide_eq_true (by omega)), rd1 _ _ rfl]
    simp only [bind_some', asI_int, asB_bool, asStr_str, asP_ptr, asSl_sl, asAgg_1, asAgg_2, asAgg_3, asAgg_4, asTup_0, asTup_2, asTup_3, asTup_4, if_true', if_false', if_not_true', if_not_false', getD_0, getD_1, getD_2, getD_3]
    rw [rd2 _ _ rfl]
    simp only [bind_some', asI_int, asB_bool, asStr_str, asP_ptr, asSl_sl, asAgg_1, asAgg_2, asAgg_3, asAgg_4, asTup_0, asTup_2, asTup_3, asTup_4, if_true', if_false', if_not_true', if_not_false', getD_0, getD_1, getD_2, getD_3]
    obtain ⟨m1, l1, g1⟩ := same_spec hf Y cc1 cc2 s1 s2 bi1 (nx + 13)
    rw [g1]
    simp only [bind_some', asI_int, asB_bool, asStr_str, asP_ptr, asSl_sl, asAgg_1, asAgg_2, asAgg_3, asAgg_4, asTup_0, asTup_2, asTup_3, asTup_4, if_true', if_false', if_not_true', if_not_false', getD_0, getD_1, getD_2, getD_3]
    exact stays_loop3 hf (by omega) w hj wb hB wa hA hbi hai bi1 ok c1 c2 (fun nx hn => ih lf (i + 1) nx (by omega) (by omega) hn) jobs.length f 0 _ false (decide (bi = ai)) (by omega) (by omega) (by omega) (by simp) (by simp)

/-- What waits has been put. -/
theorem waits_put : ∀ {js : List Job} {s : DS}, Gd s → (∀ j ∈ js, JobG j ∧ (j.kind = 1 ∨ j.kind = 2)) → ∀ w ∈ (stL s js).waits, w ∈ s.waits ∨ ∃ j ∈ js, wrs w.1 j ∧ j.data = w.2
  | [], s, _, _, w, hw => .inl hw
  | j :: js, s, g, h, w, hw => by
    obtain ⟨q, k⟩ := h j List.mem_cons_self
    have hw' : w ∈ (stL (doL s j).1 js).waits := hw
    rcases waits_put (do_gd g q) (fun x hx => h x (List.mem_cons_of_mem _ hx)) w hw' with z | ⟨x, hx, z⟩
    · rcases k with k | k
      · rw [do1 g k] at z
        rcases List.mem_append.1 z with z | z
        · exact .inl z
        · simp at z; subst z
          have : 0 ≤ j.at_ := by rcases q with q | q | q | q | q <;> omega
          exact .inr ⟨j, List.mem_cons_self, ⟨k, by simp only; omega⟩, rfl⟩
      · rw [do2 g k] at z; exact .inl z
    · exact .inr ⟨x, List.mem_cons_of_mem _ hx, z⟩

end Go.Proofs.Ytbekpkapkaifiaa.T
