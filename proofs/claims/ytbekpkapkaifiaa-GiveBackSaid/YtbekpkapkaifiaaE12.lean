/- TakeApart: the loops over what the law keeps of each unit. -/
import Derived.Test.YtbekpkapkaifiaaE11
set_option linter.unusedVariables false
set_option linter.unusedSimpArgs false
namespace Go.Proofs.Ytbekpkapkaifiaa.T
open Go Go.RowKit Go.Proofs

def OkT (r : Option (AV × AHeap × Nat)) : Prop := ∃ h' nx', r = some (.bool true, h', nx')
def decU (x : Int) : Int := if x > 0 then x - 1 else x
def izc (Z : List Int) : Nat := Z.countP (fun x => x == 0)

/-- What stays fixed in one round. -/
structure TFix (h0 : AHeap) (n0 zb : Nat) (xa ya : Option (Nat × Nat)) (ds : List Deed) (outs : List (Int × Int × Int)) : Prop where
  rd : Rows DdR h0 n0 (fun i => i = zb) xa 3 ds
  ro : Rows AnQ h0 n0 (fun i => i = zb) ya 3 outs
  hz : zb < n0
  hl : ds.length ≤ 300
  ho : outs.length = ds.length

variable {f : Nat} {Y : YldF} {h0 : AHeap} {n0 zb lf0 N k : Nat} {xa ya : Option (Nat × Nat)} {xc yc zc' : Bool} {ds : List Deed} {outs : List (Int × Int × Int)}

theorem TFix.ans (w : TFix h0 n0 zb xa ya ds outs) {h : AHeap} {nx : Nat} (fr : Frm (fun i => i = zb) h0 n0 h nx) : Rows AnQ h nx (fun i => i = zb) ya 3 outs := w.ro.go fr (fun _ _ q => q) (fun _ _ q => q) (fun _ _ q => q)
theorem TFix.dds (w : TFix h0 n0 zb xa ya ds outs) {h : AHeap} {nx : Nat} (fr : Frm (fun i => i = zb) h0 n0 h nx) : Rows DdR h nx (fun i => i = zb) xa 3 ds := w.rd.go fr (fun _ _ q => q) (fun _ _ q => q) (fun _ _ q => q)

/-- The free units are counted. -/
theorem count_loop (w : TFix h0 n0 zb xa ya ds outs) (hk : k < ds.length) {Z : List Int} (hN : Z.length = N) (hN2 : N ≤ 4096) {x : Int × Int × Int} (hx : outs[k]? = some x) (hxz : x.2.2 = (izc Z : Int)) {h : AHeap} (hv : h zb = some ⟨ints .i64 Z, 1, true⟩)
    (next : ∀ nx, Frm (fun i => i = zb) h0 n0 h nx → OkT (F3_L1 (callP Try.prog keepT f) Y f lf0 (N : Int) xa ds.length xc ya ds.length yc (some (zb, 0)) N zc' ((k + 1 : Nat) : Int) h nx)) (d : Nat) :
    ∀ (lf i nx : Nat), i + d = N → d < lf → Frm (fun i => i = zb) h0 n0 h nx → OkT (F3_L7 (callP Try.prog keepT f) Y f lf0 lf (N : Int) xa ds.length xc ya ds.length yc (some (zb, 0)) N zc' (k : Int) (izc (Z.take i) : Int) (i : Int) h nx) := by
  have hl := w.hl
  induction d with
  | zero =>
    intro lf i nx e hlf fr
    obtain ⟨lf, rfl⟩ : ∃ m, lf = m + 1 := ⟨lf - 1, by omega⟩
    obtain ⟨r, pr, _, _, rd⟩ := (w.ans fr).read (R := Res) hx
    simp only [AnQ] at pr
    subst pr
    rw [w.ho] at rd
    rw [F3_L7_eq, if_neg (by rw [decide_eq_true_eq]; omega), rd 2 (.int .i64 x.2.2) _ (by omega) rfl]
    simp only [bind_some', asI_int, asB_bool, asStr_str, asP_ptr, asSl_sl, asAgg_1, asAgg_2, asAgg_3, asAgg_4, asTup_0, asTup_2, asTup_3, asTup_4, if_true', if_false', if_not_true', if_not_false', getD_0, getD_1, getD_2, getD_3]
    rw [List.take_of_length_le (by omega), if_neg (by rw [hxz]; simp), wsucc (by omega)]
    exact next _ (fr.le (by omega))
  | succ d ih =>
    intro lf i nx e hlf fr
    obtain ⟨lf, rfl⟩ : ∃ m, lf = m + 1 := ⟨lf - 1, by omega⟩
    have hi : i < Z.length := by omega
    have hcell : (ints .i64 Z)[i]? = some (.int .i64 Z[i]) := by simp [ints, hi]
    have htk : Z.take (i + 1) = Z.take i ++ [Z[i]] := by rw [List.take_add_one, List.getElem?_eq_getElem hi]; rfl
    have hle : izc (Z.take i) ≤ i := by
      have := List.countP_le_length (p := fun x : Int => x == 0) (l := Z.take i)
      rw [List.length_take] at this
      unfold izc; omega
    have hz := ih lf (i + 1)
    rw [htk] at hz
    generalize Z[i] = z at *
    rw [F3_L7_eq, if_pos (decide_eq_true (by omega))]
    simp only [bind_some', asI_int, asB_bool, asStr_str, asP_ptr, asSl_sl, asAgg_1, asAgg_2, asAgg_3, asAgg_4, asTup_0, asTup_2, asTup_3, asTup_4, if_true', if_false', if_not_true', if_not_false', getD_0, getD_1, getD_2, getD_3]
    rw [if_pos ⟨by omega, by omega⟩, Nat.zero_add, Nat.mul_one, Int.toNat_natCast, ld_at hv hcell]
    simp only [bind_some', asI_int, asB_bool, asStr_str, asP_ptr, asSl_sl, asAgg_1, asAgg_2, asAgg_3, asAgg_4, asTup_0, asTup_2, asTup_3, asTup_4, if_true', if_false', if_not_true', if_not_false', getD_0, getD_1, getD_2, getD_3]
    have hcnt : izc (Z.take i ++ [z]) = izc (Z.take i) + if z = 0 then 1 else 0 := by
      unfold izc
      rw [List.countP_append, List.countP_cons]
      simp
    by_cases c : z = 0
    · rw [if_pos (by simp [c]), wsucc (by omega), wsucc (by omega)]
      have := hz (nx + 14) (by omega) (by omega) (fr.le (by omega))
      rw [hcnt, if_pos c] at this
      exact this
    · rw [if_neg (by simpa using c), wsucc (by omega)]
      have := hz (nx + 11) (by omega) (by omega) (fr.le (by omega))
      rw [hcnt, if_neg c, Nat.add_zero] at this
      exact this

/-- A take. -/
theorem take_walk (w : TFix h0 n0 zb xa ya ds outs) (hk : k < ds.length) {jb : Nat} {y : Deed} {n fr0 : Nat} (hy : y.n = (n : Int)) {x : Int × Int × Int} (hx : outs[k]? = some x) (hx1 : x.2.1 = (fr0 : Int)) (hN2 : N ≤ 4096) (hb : fr0 + n ≤ N) (hj : jb ≠ zb) (d : Nat) :
    ∀ (lf i : Nat) (Z : List Int) (h : AHeap) (nx : Nat), i + d = n → d < lf → Z.length = N → Frm (fun i => i = zb) h0 n0 h nx → h zb = some ⟨ints .i64 Z, 1, true⟩ → h jb = some ⟨y.row, 3, true⟩ → (∀ j, fr0 + i ≤ j → j < fr0 + n → Z[j]? = some 0) →
      (∀ h' nx', Frm (fun i => i = zb) h0 n0 h' nx' → h' zb = some ⟨ints .i64 (setR (-1) Z (fr0 + i) d), 1, true⟩ → OkT (F3_J5 (callP Try.prog keepT f) Y f lf0 (N : Int) xa ds.length xc ya ds.length yc (some (zb, 0)) N zc' (k : Int) h' nx')) →
      OkT (F3_L6 (callP Try.prog keepT f) Y f lf0 lf (N : Int) xa ds.length xc ya ds.length yc (some (zb, 0)) N zc' (k : Int) (some (jb, 0)) (i : Int) h nx) := by
  have hl := w.hl
  induction d with
  | zero =>
    intro lf i Z h nx e hlf hZ fr hv ej hz next
    obtain ⟨lf, rfl⟩ : ∃ m, lf = m + 1 := ⟨lf - 1, by omega⟩
    rw [F3_L6_eq]
    simp only [bind_some', asI_int, asB_bool, asStr_str, asP_ptr, asSl_sl, asAgg_1, asAgg_2, asAgg_3, asAgg_4, asTup_0, asTup_2, asTup_3, asTup_4, if_true', if_false', if_not_true', if_not_false', getD_0, getD_1, getD_2, getD_3]
    rw [ld_at ej (v := .int .i64 y.n) rfl]
    simp only [bind_some', asI_int, asB_bool, asStr_str, asP_ptr, asSl_sl, asAgg_1, asAgg_2, asAgg_3, asAgg_4, asTup_0, asTup_2, asTup_3, asTup_4, if_true', if_false', if_not_true', if_not_false', getD_0, getD_1, getD_2, getD_3]
    rw [if_neg (by rw [decide_eq_true_eq]; omega)]
    exact next _ _ (fr.le (by omega)) hv
  | succ d ih =>
    intro lf i Z h nx e hlf hZ fr hv ej hz next
    obtain ⟨lf, rfl⟩ : ∃ m, lf = m + 1 := ⟨lf - 1, by omega⟩
    have hi : fr0 + i < Z.length := by omega
    have h0z := hz (fr0 + i) (by omega) (by omega)
    have hcell : (ints .i64 Z)[fr0 + i]? = some (.int .i64 0) := by simp [ints, h0z]
    obtain ⟨r, pr, _, _, rd⟩ := (w.ans fr).read (R := Res) hx
    simp only [AnQ] at pr
    subst pr
    rw [w.ho] at rd
    rw [F3_L6_eq]
    simp only [bind_some', asI_int, asB_bool, asStr_str, asP_ptr, asSl_sl, asAgg_1, asAgg_2, asAgg_3, asAgg_4, asTup_0, asTup_2, asTup_3, asTup_4, if_true', if_false', if_not_true', if_not_false', getD_0, getD_1, getD_2, getD_3]
    rw [ld_at ej (v := .int .i64 y.n) rfl]
    simp only [bind_some', asI_int, asB_bool, asStr_str, asP_ptr, asSl_sl, asAgg_1, asAgg_2, asAgg_3, asAgg_4, asTup_0, asTup_2, asTup_3, asTup_4, if_true', if_false', if_not_true', if_not_false', getD_0, getD_1, getD_2, getD_3]
    rw [if_pos (decide_eq_true (by omega)), rd 1 (.int .i64 x.2.1) _ (by omega) rfl]
    simp only [bind_some', asI_int, asB_bool, asStr_str, asP_ptr, asSl_sl, asAgg_1, asAgg_2, asAgg_3, asAgg_4, asTup_0, asTup_2, asTup_3, asTup_4, if_true', if_false', if_not_true', if_not_false', getD_0, getD_1, getD_2, getD_3]
    have hw : wrapA .i64 (x.2.1 + (i : Int)) = ((fr0 + i : Nat) : Int) := by rw [wA (by omega) (by omega)]; omega
    rw [hw, if_pos ⟨by omega, by omega⟩, Nat.zero_add, Nat.mul_one, Int.toNat_natCast, ld_at hv hcell]
    simp only [bind_some', asI_int, asB_bool, asStr_str, asP_ptr, asSl_sl, asAgg_1, asAgg_2, asAgg_3, asAgg_4, asTup_0, asTup_2, asTup_3, asTup_4, if_true', if_false', if_not_true', if_not_false', getD_0, getD_1, getD_2, getD_3]
    rw [if_neg (by decide), rd 1 (.int .i64 x.2.1) _ (by omega) rfl]
    simp only [bind_some', asI_int, asB_bool, asStr_str, asP_ptr, asSl_sl, asAgg_1, asAgg_2, asAgg_3, asAgg_4, asTup_0, asTup_2, asTup_3, asTup_4, if_true', if_false', if_not_true', if_not_false', getD_0, getD_1, getD_2, getD_3]
    rw [hw, if_pos ⟨by omega, by omega⟩, Nat.zero_add, Nat.mul_one, Int.toNat_natCast, st_one hv rfl (by simp [ints]; omega)]
    clear hw
    rw [wsucc (by omega)]
    have hset : (ints .i64 Z).set (fr0 + i) (.int .i64 (-1)) = ints .i64 (Z.set (fr0 + i) (-1)) := by unfold ints; rw [List.map_set]
    rw [hset]
    refine ih lf (i + 1) (Z.set (fr0 + i) (-1)) _ (nx + 28) (by omega) (by omega) (by simpa using hZ) (fr.put (.inl rfl) (by omega)) (put_same _ _ _) ((put_ne hj).trans ej) (fun j h1 h2 => by rw [List.getElem?_set_ne (by omega)]; exact hz j (by omega) h2) (fun h' nx' q1 q2 => next h' nx' q1 ?_)
    simpa [setR, Nat.add_assoc] using q2

/-- A give. -/
theorem give_walk (w : TFix h0 n0 zb xa ya ds outs) (hk : k < ds.length) {jb : Nat} {y : Deed} {n fr0 : Nat} (hy : y.n = (n : Int)) (hya : y.a = (fr0 : Int)) (hN2 : N ≤ 4096) (hb : fr0 + n ≤ N) (hj : jb ≠ zb) (d : Nat) :
    ∀ (lf i : Nat) (Z : List Int) (h : AHeap) (nx : Nat), i + d = n → d < lf → Z.length = N → Frm (fun i => i = zb) h0 n0 h nx → h zb = some ⟨ints .i64 Z, 1, true⟩ → h jb = some ⟨y.row, 3, true⟩ →
      (∀ h' nx', Frm (fun i => i = zb) h0 n0 h' nx' → h' zb = some ⟨ints .i64 (setR 2 Z (fr0 + i) d), 1, true⟩ → OkT (F3_J5 (callP Try.prog keepT f) Y f lf0 (N : Int) xa ds.length xc ya ds.length yc (some (zb, 0)) N zc' (k : Int) h' nx')) →
      OkT (F3_L3 (callP Try.prog keepT f) Y f lf0 lf (N : Int) xa ds.length xc ya ds.length yc (some (zb, 0)) N zc' (k : Int) (some (jb, 0)) (i : Int) h nx) := by
  induction d with
  | zero =>
    intro lf i Z h nx e hlf hZ fr hv ej next
    obtain ⟨lf, rfl⟩ : ∃ m, lf = m + 1 := ⟨lf - 1, by omega⟩
    rw [F3_L3_eq]
    simp only [bind_some', asI_int, asB_bool, asStr_str, asP_ptr, asSl_sl, asAgg_1, asAgg_2, asAgg_3, asAgg_4, asTup_0, asTup_2, asTup_3, asTup_4, if_true', if_false', if_not_true', if_not_false', getD_0, getD_1, getD_2, getD_3]
    rw [ld_at ej (v := .int .i64 y.n) rfl]
    simp only [bind_some', asI_int, asB_bool, asStr_str, asP_ptr, asSl_sl, asAgg_1, asAgg_2, asAgg_3, asAgg_4, asTup_0, asTup_2, asTup_3, asTup_4, if_true', if_false', if_not_true', if_not_false', getD_0, getD_1, getD_2, getD_3]
    rw [if_neg (by rw [decide_eq_true_eq]; omega)]
    exact next _ _ (fr.le (by omega)) hv
  | succ d ih =>
    intro lf i Z h nx e hlf hZ fr hv ej next
    obtain ⟨lf, rfl⟩ : ∃ m, lf = m + 1 := ⟨lf - 1, by omega⟩
    have hi : fr0 + i < Z.length := by omega
    rw [F3_L3_eq]
    simp only [bind_some', asI_int, asB_bool, asStr_str, asP_ptr, asSl_sl, asAgg_1, asAgg_2, asAgg_3, asAgg_4, asTup_0, asTup_2, asTup_3, asTup_4, if_true', if_false', if_not_true', if_not_false', getD_0, getD_1, getD_2, getD_3]
    rw [ld_at ej (v := .int .i64 y.n) rfl]
    simp only [bind_some', asI_int, asB_bool, asStr_str, asP_ptr, asSl_sl, asAgg_1, asAgg_2, asAgg_3, asAgg_4, asTup_0, asTup_2, asTup_3, asTup_4, if_true', if_false', if_not_true', if_not_false', getD_0, getD_1, getD_2, getD_3]
    rw [if_pos (decide_eq_true (by omega)), ld_at ej (v := .int .i64 y.a) rfl]
    simp only [bind_some', asI_int, asB_bool, asStr_str, asP_ptr, asSl_sl, asAgg_1, asAgg_2, asAgg_3, asAgg_4, asTup_0, asTup_2, asTup_3, asTup_4, if_true', if_false', if_not_true', if_not_false', getD_0, getD_1, getD_2, getD_3]
    have hw : wrapA .i64 (y.a + (i : Int)) = ((fr0 + i : Nat) : Int) := by rw [wA (by omega) (by omega)]; omega
    rw [hw, if_pos ⟨by omega, by omega⟩, Nat.zero_add, Nat.mul_one, Int.toNat_natCast, st_one hv rfl (by simp [ints]; omega)]
    clear hw
    rw [wsucc (by omega)]
    have hset : (ints .i64 Z).set (fr0 + i) (.int .i64 2) = ints .i64 (Z.set (fr0 + i) 2) := by unfold ints; rw [List.map_set]
    rw [hset]
    refine ih lf (i + 1) (Z.set (fr0 + i) 2) _ (nx + 14) (by omega) (by omega) (by simpa using hZ) (fr.put (.inl rfl) (by omega)) (put_same _ _ _) ((put_ne hj).trans ej) (fun h' nx' q1 q2 => next h' nx' q1 ?_)
    simpa [setR, Nat.add_assoc] using q2

/-- A commit. -/
theorem commit_walk (hN2 : N ≤ 4096) (d : Nat) :
    ∀ (lf i : Nat) (Z : List Int) (h : AHeap) (nx : Nat), i + d = N → d < lf → Z.length = N → (∀ z ∈ Z, -1 ≤ z ∧ z ≤ 2) → Frm (fun i => i = zb) h0 n0 h nx → h zb = some ⟨ints .i64 Z, 1, true⟩ →
      (∀ h' nx', Frm (fun i => i = zb) h0 n0 h' nx' → h' zb = some ⟨ints .i64 (Z.take i ++ (Z.drop i).map decU), 1, true⟩ → OkT (F3_J5 (callP Try.prog keepT f) Y f lf0 (N : Int) xa ds.length xc ya ds.length yc (some (zb, 0)) N zc' (k : Int) h' nx')) →
      OkT (F3_L4 (callP Try.prog keepT f) Y f lf0 lf (N : Int) xa ds.length xc ya ds.length yc (some (zb, 0)) N zc' (k : Int) (i : Int) h nx) := by
  induction d with
  | zero =>
    intro lf i Z h nx e hlf hZ hzb fr hv next
    obtain ⟨lf, rfl⟩ : ∃ m, lf = m + 1 := ⟨lf - 1, by omega⟩
    rw [F3_L4_eq, if_neg (by rw [decide_eq_true_eq]; omega)]
    exact next _ _ (fr.le (by omega)) (by rw [hv, List.take_of_length_le (by omega), List.drop_of_length_le (by omega)]; simp)
  | succ d ih =>
    intro lf i Z h nx e hlf hZ hzb fr hv next
    obtain ⟨lf, rfl⟩ : ∃ m, lf = m + 1 := ⟨lf - 1, by omega⟩
    have hi : i < Z.length := by omega
    have hcell : (ints .i64 Z)[i]? = some (.int .i64 Z[i]) := by simp [ints, hi]
    have hzi := hzb _ (List.getElem_mem hi)
    rw [F3_L4_eq, if_pos (decide_eq_true (by omega))]
    simp only [bind_some', asI_int, asB_bool, asStr_str, asP_ptr, asSl_sl, asAgg_1, asAgg_2, asAgg_3, asAgg_4, asTup_0, asTup_2, asTup_3, asTup_4, if_true', if_false', if_not_true', if_not_false', getD_0, getD_1, getD_2, getD_3]
    rw [if_pos ⟨by omega, by omega⟩, Nat.zero_add, Nat.mul_one, Int.toNat_natCast, ld_at hv hcell]
    simp only [bind_some', asI_int, asB_bool, asStr_str, asP_ptr, asSl_sl, asAgg_1, asAgg_2, asAgg_3, asAgg_4, asTup_0, asTup_2, asTup_3, asTup_4, if_true', if_false', if_not_true', if_not_false', getD_0, getD_1, getD_2, getD_3]
    by_cases c : Z[i] > 0
    · rw [if_pos (decide_eq_true c), if_pos ⟨by omega, by omega⟩, ld_at hv hcell]
      simp only [bind_some', asI_int, asB_bool, asStr_str, asP_ptr, asSl_sl, asAgg_1, asAgg_2, asAgg_3, asAgg_4, asTup_0, asTup_2, asTup_3, asTup_4, if_true', if_false', if_not_true', if_not_false', getD_0, getD_1, getD_2, getD_3]
      rw [if_pos ⟨by omega, by omega⟩, show wrapA .i64 (Z[i] - 1) = Z[i] - 1 from wA (by omega) (by omega), st_one hv rfl (by simp [ints]; omega)]
      rw [wsucc (by omega)]
      have hset : (ints .i64 Z).set i (.int .i64 (Z[i] - 1)) = ints .i64 (Z.set i (Z[i] - 1)) := by unfold ints; rw [List.map_set]
      rw [hset]
      refine ih lf (i + 1) (Z.set i (Z[i] - 1)) _ (nx + 18) (by omega) (by omega) (by simpa using hZ) (fun z hz => by rcases List.mem_or_eq_of_mem_set hz with hz | rfl; exact hzb z hz; omega) (fr.put (.inl rfl) (by omega)) (put_same _ _ _) (fun h' nx' q1 q2 => next h' nx' q1 ?_)
      rw [q2, List.take_add_one, List.take_set_of_le (Nat.le_refl i), List.getElem?_set_self (by omega), List.drop_set_of_lt (by omega), List.drop_eq_getElem_cons hi, List.map_cons, show decU Z[i] = Z[i] - 1 by unfold decU; rw [if_pos c], List.append_assoc]; rfl
    · rw [if_neg (by rw [decide_eq_true_eq]; exact c), wsucc (by omega)]
      refine ih lf (i + 1) Z _ (nx + 11) (by omega) (by omega) hZ hzb (fr.le (by omega)) hv (fun h' nx' q1 q2 => next h' nx' q1 ?_)
      rw [q2, List.take_add_one, List.getElem?_eq_getElem hi, List.drop_eq_getElem_cons hi, List.map_cons, show decU Z[i] = Z[i] by unfold decU; rw [if_neg c], List.append_assoc]; rfl

end Go.Proofs.Ytbekpkapkaifiaa.T
