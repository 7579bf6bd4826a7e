/- GiveBack: the loops over the flags. -/
import Derived.Test.YtbekpkapkaifiaaE21
set_option linter.unusedVariables false
set_option linter.unusedSimpArgs false
namespace Go.Proofs.Ytbekpkapkaifiaa.T
open Go Go.RowKit Go.Proofs

abbrev boolsC (F : List Bool) : List AV := F.map AV.bool
variable {f : Nat} {Y : YldF} {h0 : AHeap} {n0 zb lf0 N k : Nat} {xa ya la : Option (Nat × Nat)} {xc yc zc' lc : Bool} {ds : List Deed} {outs : List (Int × Int × Int)} {ln : Nat}

theorem flag_walk (w : TFix h0 n0 zb xa ya ds outs) {y : Deed} (hy0 : ds[k]? = some y) {n b : Nat} (hy : y.n = (n : Int)) {x : Int × Int × Int} (hx : outs[k]? = some x) (hx0 : x.1 = 0) (hbase : (if y.k = 1 then x.2.1 else y.a) = (b : Int)) (hN2 : N ≤ 4096) (hb : b + n ≤ N) (hk : k < ds.length) (d : Nat) :
    ∀ (lf i : Nat) (F : List Bool) (h : AHeap) (nx : Nat), i + d = n → d < lf → F.length = N → Frm (fun i => i = zb) h0 n0 h nx → h zb = some ⟨boolsC F, 1, true⟩ →
      (∀ h' nx', Frm (fun i => i = zb) h0 n0 h' nx' → h' zb = some ⟨boolsC (setB (decide (y.k = 1)) F (b + i) d), 1, true⟩ → OkT (F12_L1 (callP Try.prog keepT f) Y f lf0 (N : Int) xa ds.length xc ya ds.length yc (some (zb, 0)) N zc' la ln lc ((k + 1 : Nat) : Int) h' nx')) →
      OkT (F12_L2 (callP Try.prog keepT f) Y f lf0 lf (N : Int) xa ds.length xc ya ds.length yc (some (zb, 0)) N zc' la ln lc (k : Int) (i : Int) h nx) := by
  have hl := w.hl
  induction d with
  | zero =>
    intro lf i F h nx e hlf hF fr hv next
    obtain ⟨lf, rfl⟩ : ∃ m, lf = m + 1 := ⟨lf - 1, by omega⟩
    obtain ⟨r, pr, _, _, rd⟩ := (w.dds fr).read (R := Res) hy0
    simp only [DdR, Deed.row] at pr
    subst pr
    rw [F12_L2_eq, rd 2 (.int .i64 y.n) _ (by omega) rfl]
    simp only [bind_some', asI_int, asB_bool, asStr_str, asP_ptr, asSl_sl, asAgg_1, asAgg_2, asAgg_3, asAgg_4, asTup_0, asTup_2, asTup_3, asTup_4, if_true', if_false', if_not_true', if_not_false', getD_0, getD_1, getD_2, getD_3]
    rw [if_neg (by rw [decide_eq_true_eq]; omega), wsucc (by omega)]
    exact next _ _ (fr.le (by omega)) hv
  | succ d ih =>
    intro lf i F h nx e hlf hF fr hv next
    obtain ⟨lf, rfl⟩ : ∃ m, lf = m + 1 := ⟨lf - 1, by omega⟩
    obtain ⟨r, pr, _, _, rd⟩ := (w.dds fr).read (R := Res) hy0
    obtain ⟨r0, pr0, _, rd0⟩ := (w.dds fr).read0 (R := Res) hy0 (by omega)
    obtain ⟨s, ps, _, _, sd⟩ := (w.ans fr).read (R := Res) hx
    obtain ⟨s0, ps0, _, sd0⟩ := (w.ans fr).read0 (R := Res) hx (by omega)
    simp only [DdR, Deed.row] at pr pr0
    simp only [AnQ] at ps ps0
    subst pr pr0 ps ps0
    rw [w.ho] at sd sd0
    have unit : ∀ (m : Nat), OkT (F12_J5 (callP Try.prog keepT f) Y f lf0 lf (N : Int) xa ds.length xc ya ds.length yc (some (zb, 0)) N zc' la ln lc (k : Int) (i : Int) ((b + i : Nat) : Int) h (nx + m)) := fun m => by
      rw [F12_J5_eq, if_neg (by rw [decide_eq_true_eq]; omega), if_neg (by rw [decide_eq_true_eq]; omega), F12_J6_eq, rd0 _ _ rfl]
      simp only [bind_some', asI_int, asB_bool, asStr_str, asP_ptr, asSl_sl, asAgg_1, asAgg_2, asAgg_3, asAgg_4, asTup_0, asTup_2, asTup_3, asTup_4, if_true', if_false', if_not_true', if_not_false', getD_0, getD_1, getD_2, getD_3]
      rw [if_pos ⟨by omega, by omega⟩, Nat.zero_add, Nat.mul_one, Int.toNat_natCast, st_one hv rfl (by simp; omega)]
      rw [wsucc (by omega)]
      have hset : (boolsC F).set (b + i) (.bool (y.k == 1)) = boolsC (F.set (b + i) (decide (y.k = 1))) := by
        unfold boolsC; rw [List.map_set]; congr 2
      rw [hset]
      refine ih lf (i + 1) (F.set (b + i) (decide (y.k = 1))) _ _ (by omega) (by omega) (by simpa using hF) (fr.put (.inl rfl) (by omega)) (put_same _ _ _) (fun h' nx' q1 q2 => next h' nx' q1 ?_)
      simpa [setB, Nat.add_assoc] using q2
    rw [F12_L2_eq, rd 2 (.int .i64 y.n) _ (by omega) rfl]
    simp only [bind_some', asI_int, asB_bool, asStr_str, asP_ptr, asSl_sl, asAgg_1, asAgg_2, asAgg_3, asAgg_4, asTup_0, asTup_2, asTup_3, asTup_4, if_true', if_false', if_not_true', if_not_false', getD_0, getD_1, getD_2, getD_3]
    rw [if_pos (decide_eq_true (by omega)), sd0 _ _ rfl]
    simp only [bind_some', asI_int, asB_bool, asStr_str, asP_ptr, asSl_sl, asAgg_1, asAgg_2, asAgg_3, asAgg_4, asTup_0, asTup_2, asTup_3, asTup_4, if_true', if_false', if_not_true', if_not_false', getD_0, getD_1, getD_2, getD_3]
    rw [if_pos (by simp [hx0]), F12_J4_eq, rd 1 (.int .i64 y.a) _ (by omega) rfl]
    simp only [bind_some', asI_int, asB_bool, asStr_str, asP_ptr, asSl_sl, asAgg_1, asAgg_2, asAgg_3, asAgg_4, asTup_0, asTup_2, asTup_3, asTup_4, if_true', if_false', if_not_true', if_not_false', getD_0, getD_1, getD_2, getD_3]
    rw [rd0 _ _ rfl]
    simp only [bind_some', asI_int, asB_bool, asStr_str, asP_ptr, asSl_sl, asAgg_1, asAgg_2, asAgg_3, asAgg_4, asTup_0, asTup_2, asTup_3, asTup_4, if_true', if_false', if_not_true', if_not_false', getD_0, getD_1, getD_2, getD_3]
    by_cases c : y.k = 1
    · rw [if_pos c] at hbase
      rw [if_pos (by simp [c]), sd 1 (.int .i64 x.2.1) _ (by omega) rfl]
      simp only [bind_some', asI_int, asB_bool, asStr_str, asP_ptr, asSl_sl, asAgg_1, asAgg_2, asAgg_3, asAgg_4, asTup_0, asTup_2, asTup_3, asTup_4, if_true', if_false', if_not_true', if_not_false', getD_0, getD_1, getD_2, getD_3]
      rw [hbase, show wrapA .i64 ((b : Int) + (i : Int)) = ((b + i : Nat) : Int) by rw [wA (by omega) (by omega)]; omega, Nat.add_assoc]
      exact unit _
    · rw [if_neg c] at hbase
      rw [if_neg (by simpa using c), hbase, show wrapA .i64 ((b : Int) + (i : Int)) = ((b + i : Nat) : Int) by rw [wA (by omega) (by omega)]; omega, Nat.add_assoc]
      exact unit _

end Go.Proofs.Ytbekpkapkaifiaa.T
