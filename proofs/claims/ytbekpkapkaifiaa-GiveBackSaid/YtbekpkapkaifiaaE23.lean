/- GiveBack: all flags, all gives. -/
import Derived.Test.YtbekpkapkaifiaaE22
set_option linter.unusedVariables false
set_option linter.unusedSimpArgs false
namespace Go.Proofs.Ytbekpkapkaifiaa.T
open Go Go.RowKit Go.Proofs
variable {f : Nat} {Y : YldF} {h0 : AHeap} {n0 zb N : Nat} {xa ya la : Option (Nat × Nat)} {xc yc zc' lc : Bool} {ds : List Deed} {ln : Nat}

theorem flags_loop (hfN : N + 20 ≤ f) (w : TFix h0 n0 zb xa ya ds (runP (freshS N) ds)) (hN : N ≤ 4096) (okd : ∀ d ∈ ds, DdOk N d)
    (last : ∀ nx h, Frm (fun i => i = zb) h0 n0 h nx → h zb = some ⟨boolsC ((stP (freshS N) ds).u.map tkn), 1, true⟩ → OkT (F12_L3 (callP Try.prog keepT f) Y f f (N : Int) (some (zb, 0)) N zc' la ln lc 0 h nx)) (d : Nat) :
    ∀ (lf k : Nat) (h : AHeap) (nx : Nat), k + d = ds.length → d < lf → Frm (fun i => i = zb) h0 n0 h nx → h zb = some ⟨boolsC ((stP (freshS N) (ds.take k)).u.map tkn), 1, true⟩ →
      OkT (F12_L1 (callP Try.prog keepT f) Y f lf (N : Int) xa ds.length xc ya ds.length yc (some (zb, 0)) N zc' la ln lc (k : Int) h nx) := by
  have hl := w.hl
  induction d with
  | zero =>
    intro lf k h nx e hlf fr hv
    obtain ⟨lf, rfl⟩ : ∃ m, lf = m + 1 := ⟨lf - 1, by omega⟩
    rw [F12_L1_eq, if_neg (by rw [decide_eq_true_eq]; omega)]
    rw [List.take_of_length_le (by omega)] at hv
    exact last _ _ (fr.le (by omega)) hv
  | succ d ih =>
    intro lf k h nx e hlf fr hv
    obtain ⟨lf, rfl⟩ : ∃ m, lf = m + 1 := ⟨lf - 1, by omega⟩
    have hk : k < ds.length := by omega
    have htk : ds.take (k + 1) = ds.take k ++ [ds[k]] := by rw [List.take_add_one, List.getElem?_eq_getElem hk]; rfl
    have oky := okd _ (List.getElem_mem hk)
    have hy0 : ds[k]? = some ds[k] := List.getElem?_eq_getElem hk
    have hout : (runP (freshS N) ds)[k]? = some ((doS (stP (freshS N) (ds.take k)) ds[k]).2.1, (doS (stP (freshS N) (ds.take k)) ds[k]).2.2, (doS (stP (freshS N) (ds.take k)) ds[k]).1.free) := by
      have e0 : ds = ds.take k ++ (ds[k] :: ds.drop (k + 1)) := by rw [← List.drop_eq_getElem_cons hk, List.take_append_drop]
      have e2 : (ds.take k).length = k := by rw [List.length_take]; omega
      conv => lhs; rw [e0]
      rw [runP_app, List.getElem?_append_right (by rw [runP_len]; omega), runP_len, e2, Nat.sub_self]; rfl
    have hst : stP (freshS N) (ds.take (k + 1)) = (doS (stP (freshS N) (ds.take k)) ds[k]).1 := by rw [htk, stP_app]; rfl
    have ok : Sok N (stP (freshS N) (ds.take k)) := stP_ok (freshS_ok N)
    generalize hy : ds[k] = y at *
    generalize hs : stP (freshS N) (ds.take k) = s at *
    obtain ⟨k1, k2, k3⟩ := ok
    have hF : (s.u.map tkn).length = N := by rw [List.length_map]; exact k1
    have fin : ∀ (h' : AHeap) (nx' : Nat), Frm (fun i => i = zb) h0 n0 h' nx' → h' zb = some ⟨boolsC ((doS s y).1.u.map tkn), 1, true⟩ → OkT (F12_L1 (callP Try.prog keepT f) Y f lf (N : Int) xa ds.length xc ya ds.length yc (some (zb, 0)) N zc' la ln lc ((k + 1 : Nat) : Int) h' nx') := fun h' nx' q1 q2 => ih lf (k + 1) h' nx' (by omega) (by omega) q1 (by rw [hst]; exact q2)
    rw [F12_L1_eq, if_pos (decide_eq_true (by omega))]
    by_cases z : (doS s y).2.1 = 0
    · rcases oky with ⟨o1, o2, o3, o4⟩ | ⟨o1, o2, o3, o4⟩ | ⟨o1, o2, o3⟩
      · have hdo : doS s y = takeS s y.n := by unfold doS; rw [if_pos o1]
        rw [hdo] at z hout fin
        obtain ⟨t1, t2, t3⟩ := takeS_in (N := N) ⟨k1, k2, k3⟩ z
        obtain ⟨cn, hcn⟩ : ∃ cn : Nat, y.n = (cn : Int) := ⟨y.n.toNat, by omega⟩
        obtain ⟨e0, hfind, hres⟩ : ∃ e0, findL cn s.u 0 0 = some e0 ∧ takeS s y.n = (⟨setR 1 s.u (e0 - cn) cn, s.free - cn, s.log ++ [(false, (e0 : Int) - cn, (e0 : Int))]⟩, (0, (e0 : Int) - cn)) := by
          rw [hcn] at z ⊢
          rw [takeS_eq (by omega) (by omega)] at z ⊢
          cases hf : findL cn s.u 0 0 with
          | none => rw [hf] at z; simp [takeM] at z
          | some e0 => exact ⟨e0, rfl, rfl⟩
        obtain ⟨f1, f2, f3⟩ := take_found (by omega) hfind
        have hfr : (takeS s y.n).2.2 = ((e0 - cn : Nat) : Int) := by rw [hres]; simp only; omega
        refine flag_walk w hy0 hcn hout z (b := e0 - cn) (by rw [if_pos o1]; exact hfr) hN (by omega) hk cn f 0 (s.u.map tkn) h _ (by omega) (by omega) hF (fr.le (by omega)) hv (fun h' nx' q1 q2 => fin h' nx' q1 ?_)
        rw [q2, hres]
        simp only [Nat.add_zero, o1, decide_true]
        rw [map_setB]; rfl
      · have hdo : doS s y = ((giveS s y.a y.n).1, ((giveS s y.a y.n).2, 0)) := by unfold doS; rw [if_neg (by omega), if_pos o1]
        rw [hdo] at z hout fin
        simp only at z hout fin
        obtain ⟨cn, hcn⟩ : ∃ cn : Nat, y.n = (cn : Int) := ⟨y.n.toNat, by omega⟩
        obtain ⟨an, han⟩ : ∃ an : Nat, y.a = (an : Int) := ⟨y.a.toNat, by omega⟩
        have hg : (giveS s y.a y.n).1.u = setR 2 s.u an cn := by
          unfold giveS at z ⊢
          by_cases c : y.a < 0 ∨ y.n < 1 ∨ y.n > s.u.length ∨ y.a > s.u.length - y.n
          · rw [if_pos c] at z; simp at z
          · rw [if_neg c] at z ⊢
            by_cases c2 : ((s.u.drop y.a.toNat).take y.n.toNat).all (fun x => decide (x = 1)) = true
            · rw [if_pos c2, hcn, han]; simp
            · rw [if_neg c2] at z; simp at z
        refine flag_walk w hy0 hcn hout z (b := an) (by rw [if_neg (by omega)]; exact han) hN (by omega) hk cn f 0 (s.u.map tkn) h _ (by omega) (by omega) hF (fr.le (by omega)) hv (fun h' nx' q1 q2 => fin h' nx' q1 ?_)
        rw [q2, hg, map_setB, show decide (y.k = 1) = false from decide_eq_false (by omega)]; rfl
      · have hdo : doS s y = (commitS s, (0, 0)) := by unfold doS; rw [if_neg (by omega), if_neg (by omega), if_pos o1]
        rw [hdo] at z hout fin
        refine flag_walk w hy0 (n := 0) (by omega) hout z (b := 0) (by rw [if_neg (by omega)]; omega) hN (by omega) hk 0 f 0 (s.u.map tkn) h _ (by omega) (by omega) hF (fr.le (by omega)) hv (fun h' nx' q1 q2 => fin h' nx' q1 ?_)
        rw [q2, commit_u, tkn_step]; rfl
    · have hsame : (doS s y).1 = s := by
        unfold doS at z ⊢
        by_cases c1 : y.k = 1
        · rw [if_pos c1] at z ⊢
          unfold takeS at z ⊢
          split
          · rfl
          · rename_i c
            rw [if_neg c] at z
            cases hf : findL y.n.toNat s.u 0 0 with
            | none => rfl
            | some e0 => rw [hf] at z; simp at z
        rw [if_neg c1] at z ⊢
        by_cases c2 : y.k = 2
        · rw [if_pos c2] at z ⊢
          unfold giveS at z ⊢
          split
          · rfl
          · rename_i c
            rw [if_neg c] at z
            split
            · rename_i c'; rw [if_pos c'] at z; simp at z
            · rfl
        rw [if_neg c2] at z ⊢
        by_cases c3 : y.k = 3
        · rw [if_pos c3] at z; simp at z
        · rw [if_neg c3]
      have fr2 : Frm (fun i => i = zb) h0 n0 h (nx + 5) := fr.le (by omega)
      obtain ⟨r, pr, _, _, rd⟩ := (w.dds fr2).read (R := Res) hy0
      obtain ⟨s0, ps0, _, sd0⟩ := (w.ans fr2).read0 (R := Res) hout (by omega)
      simp only [DdR, Deed.row] at pr
      simp only [AnQ] at ps0
      subst pr ps0
      rw [runP_len] at sd0
      obtain ⟨g, rfl⟩ : ∃ m, f = m + 1 := ⟨f - 1, by omega⟩
      rw [F12_L2_eq, rd 2 (.int .i64 y.n) _ (by omega) rfl]
      simp only [bind_some', asI_int, asB_bool, asStr_str, asP_ptr, asSl_sl, asAgg_1, asAgg_2, asAgg_3, asAgg_4, asTup_0, asTup_2, asTup_3, asTup_4, if_true', if_false', if_not_true', if_not_false', getD_0, getD_1, getD_2, getD_3]
      by_cases c : (0 : Int) < y.n
      · rw [if_pos (decide_eq_true c), sd0 _ _ rfl]
        simp only [bind_some', asI_int, asB_bool, asStr_str, asP_ptr, asSl_sl, asAgg_1, asAgg_2, asAgg_3, asAgg_4, asTup_0, asTup_2, asTup_3, asTup_4, if_true', if_false', if_not_true', if_not_false', getD_0, getD_1, getD_2, getD_3]
        rw [if_neg (by simpa using z), wsucc (by omega)]
        exact fin _ _ (fr.le (by omega)) (by rw [hsame]; exact hv)
      · rw [if_neg (by rw [decide_eq_true_eq]; exact c), wsucc (by omega)]
        exact fin _ _ (fr.le (by omega)) (by rw [hsame]; exact hv)

end Go.Proofs.Ytbekpkapkaifiaa.T
