/- Drives: gets. -/
import Derived.Test.YtbekpkapkaifiaaD8
set_option linter.unusedVariables false
set_option linter.unusedSimpArgs false
namespace Go.Proofs.Ytbekpkapkaifiaa.T
open Go Go.RowKit Go.Proofs

theorem getJ_ok {i : Nat} (h : i < 8) : JobOk 8 (getJ i) := .inr (.inl ⟨rfl, by simp only [getJ]; omega, by simp only [getJ]; omega⟩)

theorem gets_loop1 {f : Nat} (hf : 330 ≤ f) {Y : YldF} {h0 : AHeap} {n0 : Nat} {xa : Option (Nat × Nat)} {xc : Bool} {jobs : List Job} (hj : jobs.length ≤ 200) (ok : ∀ j ∈ jobs, JobOk 8 j) {S : DS} (hS : stL (freshL 8) jobs = S) (dead : S.dead = false) (good : ∀ i, i < 8 → (getL S i).1 = 0 ∧ (getL S i).2.length = 128) (d : Nat) :
    ∀ (lf k : Nat) (oc : Bool) (oa : Option (Nat × Nat)) (A : Nat → Prop) (h : AHeap) (nx : Nat), k + d = 8 → d < lf → Ext h0 n0 h nx → Jobs h nx A oa (jobs ++ (List.range k).map getJ) → (∀ i, A i → n0 ≤ i ∧ i < nx) →
      ∃ a c h' nx', F19_L1 (callP Try.prog keepT f) Y f lf xa jobs.length xc oa (jobs ++ (List.range k).map getJ).length oc (k : Int) h nx = some (.tuple [.slice a 8 c, .bool true], h', nx') ∧ Ext h0 n0 h' nx' ∧ BytL h' nx' a ((List.range 8).map fun i => (getL S i).2) := by
  induction d with
  | zero =>
    intro lf k oc oa A h nx e hl x w hA
    obtain ⟨lf, rfl⟩ : ∃ m, lf = m + 1 := ⟨lf - 1, by omega⟩
    obtain rfl : k = 8 := by omega
    have lx := x.1
    rw [F19_L1_eq, if_neg (by decide)]
    have x1 : Ext h nx h (nx + 9) := ⟨by omega, fun _ _ => rfl⟩
    have hlen : (jobs ++ (List.range 8).map getJ).length = jobs.length + 8 := by simp
    obtain ⟨a, c, h2, n2, g1, g2, g3⟩ := play_spec (f := f) (by omega) Y oc (w.ext x1).rows (fun j hj => by
      rcases List.mem_append.1 hj with q | q
      · exact ok j q
      · obtain ⟨i, hi, rfl⟩ := List.mem_map.1 q
        exact getJ_ok (List.mem_range.1 hi)) (by omega)
    rw [g1]
    have l2 := g2.1
    have x2 : Ext h0 n0 h2 n2 := ⟨by omega, fun i hi => (g2.2 i (by omega)).trans (x.2 i hi)⟩
    simp only [bind_some', asI_int, asB_bool, asStr_str, asP_ptr, asSl_sl, asAgg_1, asAgg_2, asAgg_3, asAgg_4, asTup_0, asTup_2, asTup_3, asTup_4, if_true', if_false', if_not_true', if_not_false', getD_0, getD_1, getD_2, getD_3]
    rw [if_neg (by decide), if_neg (by simp), F19_J2_eq]
    have hr : runL (freshL 8) (jobs ++ (List.range 8).map getJ) = runL (freshL 8) jobs ++ (List.range 8).map (getL S) := by rw [runL_app, hS, run_gets S dead]
    rw [hr] at g3
    obtain ⟨a', c', h3, n3, k1, k2, k3⟩ := gets_loop3 (f := f) (Y := Y) (xa := xa) (xn := jobs.length) (xc := xc) (sc := c) (sn := (jobs ++ (List.range 8).map getJ).length) g3 (by simp [runL_len]) hlen (by omega) (g := fun i => (getL S i).2) (fun i hi => ⟨by
      rw [List.getElem?_append_right (by rw [runL_len]; omega), runL_len, Nat.add_sub_cancel_left, List.getElem?_map, List.getElem?_range hi]
      simp only [Option.map_some, Option.some.injEq]
      rw [← (good i hi).1], (good i hi).2⟩) 8 f 0 false none h2 (n2 + 9 + 2) (by omega) (by omega) ⟨by omega, fun _ _ => rfl⟩ (OwnRows.nil _ _ _ _) (fun i q => (no_own q).elim)
    exact ⟨a', c', h3, n3, k1, ⟨by have := k2.1; omega, fun i hi => (k2.2 i (by omega)).trans (x2.2 i hi)⟩, k3⟩
  | succ d ih =>
    intro lf k oc oa A h nx e hl x w hA
    obtain ⟨lf, rfl⟩ : ∃ m, lf = m + 1 := ⟨lf - 1, by omega⟩
    have lx := x.1
    rw [F19_L1_eq, if_pos (decide_eq_true (by omega))]
    have x3 : Ext h nx (h.put (nx + 5) (some ⟨[.int .i64 2, .int .i64 (k : Int), .int .i64 0, .slice none 0 false], 4, true⟩)) (nx + 6) := ⟨by omega, fun i hi => put_ne (by omega)⟩
    have hsrc := src_lit (h := h) (id := nx + 5) (es := 4) (ws := [.int .i64 2, .int .i64 (k : Int), .int .i64 0, .slice none 0 false]) rfl
    dsimp only
    generalize h.put (nx + 5) (some ⟨[.int .i64 2, .int .i64 (k : Int), .int .i64 0, .slice none 0 false], 4, true⟩) = h3 at *
    rw [hsrc]
    simp only [bind_some', asI_int, asB_bool, asStr_str, asP_ptr, asSl_sl, asAgg_1, asAgg_2, asAgg_3, asAgg_4, asTup_0, asTup_2, asTup_3, asTup_4, if_true', if_false', if_not_true', if_not_false', getD_0, getD_1, getD_2, getD_3]
    obtain ⟨e1, p1, p2, p3, p4⟩ := (w.ext x3).app oc (bytes := 48) (id := nx + 6) (l2 := [getJ k]) (All2.one ⟨_, rfl, byt_nil⟩) (fun r hr => by simp at hr; subst hr; rfl) [nx + 5] (growOk_of (by simp; omega) (by omega)) (by omega)
    simp only [List.length_singleton, List.flatten_cons, List.flatten_nil, List.append_nil] at p1
    rw [show ([AV.int IntKind.i64 (getJ k).kind, AV.int IntKind.i64 (getJ k).at_, AV.int IntKind.i64 (getJ k).keep, AV.slice none 0 false]) = [.int .i64 2, .int .i64 (k : Int), .int .i64 0, .slice none 0 false] from rfl] at p1
    rw [p1]
    simp only [bind_some', asI_int, asB_bool, asStr_str, asP_ptr, asSl_sl, asAgg_1, asAgg_2, asAgg_3, asAgg_4, asTup_0, asTup_2, asTup_3, asTup_4, if_true', if_false', if_not_true', if_not_false', getD_0, getD_1, getD_2, getD_3]
    have hmap : jobs ++ (List.range (k + 1)).map getJ = (jobs ++ (List.range k).map getJ) ++ [getJ k] := by rw [List.range_succ, List.map_append, List.append_assoc]; rfl
    rw [wsucc (by omega), p2, ← hmap]
    rw [← hmap] at p3
    have x4 : Ext h0 n0 (h3.puts e1.sets) (nx + 11) := ⟨by omega, fun i hi => by rw [p4.2 i (by omega) (fun q => by have := hA i q; omega), x3.2 i (by omega), x.2 i hi]⟩
    exact ih lf (k + 1) e1.c e1.a _ _ (nx + 11) (by omega) (by omega) x4 (p3.ext ⟨by omega, fun _ _ => rfl⟩) (fun i q => by rcases q with q | q; have := hA i q; omega; omega)

/-- gets: what the 8 sectors hold after the jobs. -/
theorem gets_spec {f : Nat} (hf : 340 ≤ f) (Y : YldF) {h0 : AHeap} {n0 : Nat} {xa : Option (Nat × Nat)} (xc : Bool) {jobs : List Job} (w : Rows (JobR h0 n0 fun _ => False) h0 n0 (fun _ => False) xa 4 jobs) (hj : jobs.length ≤ 200) (ok : ∀ j ∈ jobs, JobOk 8 j) {S : DS} (hS : stL (freshL 8) jobs = S) (dead : S.dead = false) (good : ∀ i, i < 8 → (getL S i).1 = 0 ∧ (getL S i).2.length = 128) :
    ∃ a c h' nx', callP Try.prog keepT f Y 19 [.slice xa jobs.length xc] h0 n0 = some (.tuple [.slice a 8 c, .bool true], h', nx') ∧ Ext h0 n0 h' nx' ∧ BytL h' nx' a ((List.range 8).map fun i => (getL S i).2) := by
  obtain ⟨f, rfl⟩ : ∃ m, f = m + 1 := ⟨f - 1, by omega⟩
  obtain ⟨rows, rd, q, len, src⟩ := w.srcs
  rw [F19_eq, src]
  simp only [bind_some', asI_int, asB_bool, asStr_str, asP_ptr, asSl_sl, asAgg_1, asAgg_2, asAgg_3, asAgg_4, asTup_0, asTup_2, asTup_3, asTup_4, if_true', if_false', if_not_true', if_not_false', getD_0, getD_1, getD_2, getD_3]
  obtain ⟨e1, p1, p2, p3, p4⟩ := Jobs.app (h := h0) (nx := n0) (A := fun _ => False) (a := none) (l := []) ⟨OwnRows.nil _ _ _ _, fun i q => (no_own q).elim⟩ false (bytes := 48) (id := n0 + 3) (l2 := jobs) q len rd (growOk_of (by simp; omega) (by omega)) (by omega)
  rw [List.length_nil] at p1
  rw [p1]
  simp only [bind_some', asI_int, asB_bool, asStr_str, asP_ptr, asSl_sl, asAgg_1, asAgg_2, asAgg_3, asAgg_4, asTup_0, asTup_2, asTup_3, asTup_4, if_true', if_false', if_not_true', if_not_false', getD_0, getD_1, getD_2, getD_3]
  rw [List.nil_append] at p2 p3
  have x4 : Ext h0 n0 (h0.puts e1.sets) (n0 + 6) := ⟨by omega, fun i hi => p4.2 i hi (fun q => q)⟩
  have r0 : jobs ++ (List.range 0).map getJ = jobs := by simp
  obtain ⟨a, c, h', nx', r⟩ := gets_loop1 (f := f) (by omega) (Y := Y) (xa := xa) (xc := xc) hj ok hS dead good 8 f 0 e1.c e1.a _ (h0.puts e1.sets) (n0 + 6) (by omega) (by omega) x4 (by rw [r0]; exact p3.ext ⟨by omega, fun _ _ => rfl⟩) (fun i q => by rcases q with q | q; exact q.elim; omega)
  rw [r0] at r
  rw [p2]
  exact ⟨a, c, h', nx', r⟩

end Go.Proofs.Ytbekpkapkaifiaa.T
