/- GiveBack: the whole run. -/
import Derived.Test.YtbekpkapkaifiaaE24
set_option linter.unusedVariables false
set_option linter.unusedSimpArgs false
namespace Go.Proofs.Ytbekpkapkaifiaa.T
open Go Go.RowKit Go.Proofs

theorem GiveBack_run (h : AHeap) (nx : Nat) (a : Option (Nat × Nat)) (cells : List (List AV)) (hB : cells.length * 24 ≤ 140737488351232) (ht : ∀ c ∈ cells, Ty h nx ActSh3 c) (sl : Sl h nx a cells.length ActSh3.n cells.flatten) (x : Int) (_hx : (Lit.int .i64 x).wf = true) :
    ∃ f h' nx', callP Try.prog keepT f Y0 12 [.slice a cells.length false, .int .i64 x] h nx = some (.bool true, h', nx') := by
  obtain ⟨l, rfl⟩ := acts3_of ht
  rw [List.length_map] at hB sl ⊢
  refine ⟨6001, ?_⟩
  obtain ⟨P1, P2⟩ := pickL_in (x := x) (n := 100) (by omega)
  rw [F12_eq, picked_spec (f := 6000) (by omega) Y0 x 100 (by omega) (by omega)]
  simp only [bind_some', asI_int, asB_bool, asStr_str, asP_ptr, asSl_sl, asAgg_1, asAgg_2, asAgg_3, asAgg_4, asTup_0, asTup_2, asTup_3, asTup_4, if_true', if_false', if_not_true', if_not_false', getD_0, getD_1, getD_2, getD_3]
  obtain ⟨N, hN⟩ : ∃ N : Nat, 1 + pickL x 100 = (N : Int) := ⟨(1 + pickL x 100).toNat, by omega⟩
  rw [show wrapA .i64 (1 + pickL x 100) = (N : Int) by rw [wA (by omega) (by omega)]; exact hN]
  have hN1 : 1 ≤ N ∧ N ≤ 100 := by omega
  clear hN P1 P2
  obtain ⟨hN1, hN2⟩ := hN1
  have x1 : Ext h nx h (nx + 5 + pickK x 100 + 12) := ⟨by omega, fun _ _ => rfl⟩
  obtain ⟨ds, a1, c1, a2, c2, a3, c3, h1, n1, g1, g2, g3, g4, g5, g6, g7⟩ := deeds_spec (f := 6000) (N := N) (by omega) (by omega) (by omega) Y0 (m := 40) (by omega) false (sl.ext x1) (by omega)
  change callP Try.prog keepT 6000 Y0 16 [.slice a l.length false, .int .i64 40, .int .i64 (N : Int)] h _ = _ at g1
  rw [g1]
  simp only [bind_some', asI_int, asB_bool, asStr_str, asP_ptr, asSl_sl, asAgg_1, asAgg_2, asAgg_3, asAgg_4, asTup_0, asTup_2, asTup_3, asTup_4, if_true', if_false', if_not_true', if_not_false', getD_0, getD_1, getD_2, getD_3]
  rw [if_pos (by simp; omega), Int.toNat_natCast]
  have x2 : Ext h1 n1 (h1.put (n1 + 3) (some ⟨madeA [.bool false] (N * 1), 1, true⟩)) (n1 + 6) := ⟨by omega, fun i hi => put_ne (by omega)⟩
  have e2 : (h1.put (n1 + 3) (some ⟨madeA [.bool false] (N * 1), 1, true⟩)) (n1 + 3) = some ⟨boolsC ((stP (freshS N) (ds.take 0)).u.map tkn), 1, true⟩ := by rw [put_same]; simp [madeA, stP, freshS, tkn]
  generalize h1.put (n1 + 3) (some ⟨madeA [.bool false] (N * 1), 1, true⟩) = h2 at *
  obtain ⟨rows, rd, e11, p1, p2, p3, p4, p5, p6, _⟩ := copy_rows (g3.go (x2.fr none') (fun _ _ q => q) (fun _ _ q => q) (fun _ _ q => q) : Rows DdR h2 (n1 + 6) none' a1 3 ds) (bytes := 24) (id := n1 + 6) (by omega) (by omega) (by omega)
  rw [p1]
  simp only [bind_some', asI_int, asB_bool, asStr_str, asP_ptr, asSl_sl, asAgg_1, asAgg_2, asAgg_3, asAgg_4, asTup_0, asTup_2, asTup_3, asTup_4, if_true', if_false', if_not_true', if_not_false', getD_0, getD_1, getD_2, getD_3]
  rw [p2]
  simp only [bind_some', asI_int, asB_bool, asStr_str, asP_ptr, asSl_sl, asAgg_1, asAgg_2, asAgg_3, asAgg_4, asTup_0, asTup_2, asTup_3, asTup_4, if_true', if_false', if_not_true', if_not_false', getD_0, getD_1, getD_2, getD_3]
  rw [p3]
  have x3 : Ext h1 n1 (h2.puts e11.sets) (n1 + 9) := ⟨by omega, fun i hi => (p4.2 i (by omega)).trans (x2.2 i hi)⟩
  have e3 := (p4.2 (n1 + 3) (by omega)).trans e2
  have ow : OwnRows DdR (h2.puts e11.sets) (n1 + 9) e11.a 3 ds := p5.go (D := none') ⟨by omega, fun _ _ _ => rfl⟩ (fun _ _ q => q) (fun _ _ q => q)
  generalize h2.puts e11.sets = h3 at *
  have w : TFix h3 (n1 + 9) (n1 + 3) a1 a2 ds (runP (freshS N) ds) := ⟨g3.go (x3.fr none') (fun _ _ q => q) (fun i hi q => by omega) (fun _ _ q => q), g4.go (x3.fr none') (fun _ _ q => q) (fun i hi q => by omega) (fun _ _ q => q), by omega, by omega, runP_len _ _⟩
  refine flags_loop (f := 6000) (by omega) w (by omega) g7 (fun nx' h' fr hv => ?_) ds.length 6000 0 h3 (n1 + 9) (by omega) (by omega) (Frm.refl _ _ _) e3
  have l3 := fr.1
  have := gives_loop (f := 6000) (Nat.le_refl _) hN2 hN1 (Y := Y0) (zc' := ((N : Int) == (N : Int))) (ds := ds) (by omega) (h0 := h') (n0 := nx') (zb := n1 + 3) (by omega) hv N 6000 0 e11.c e11.a h' nx' (by omega) (by omega) (Nat.le_refl _) rfl (by
    rw [show ds ++ givesL (stP (freshS N) ds).u 0 = ds by simp [givesL]]
    exact ow.go fr (fun i q z => by have := p6 i q; omega) (fun _ _ q => q)) (fun i q z => by have := p6 i q; omega)
  rw [show ds ++ givesL (stP (freshS N) ds).u 0 = ds by simp [givesL]] at this
  exact this

end Go.Proofs.Ytbekpkapkaifiaa.T
