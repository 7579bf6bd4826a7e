/- DriveDead: the whole run. -/
import Derived.Test.YtbekpkapkaifiaaD17
set_option linter.unusedVariables false
set_option linter.unusedSimpArgs false
namespace Go.Proofs.Ytbekpkapkaifiaa.T
open Go Go.RowKit Go.Proofs

def cellsD (j : Job) (v : AV) : List AV := [.int .i64 j.kind, .int .i64 j.at_, .int .i64 j.keep, v]

theorem dead_ok {i : Nat} (hi : i < 8) {v : List Int} (hv : v.length = 128) : ∀ j ∈ deadJ i v, JobOk 8 j := by
  intro j hj
  have h1 : 0 ≤ (i : Int) ∧ (i : Int) < ((8 : Nat) : Int) := ⟨by omega, by omega⟩
  have t2 : JobOk 8 (mk 2 i []) := .inr (.inl ⟨rfl, h1.1, h1.2⟩)
  have t3 : JobOk 8 ⟨3, 0, 0, []⟩ := .inr (.inr (.inl rfl))
  simp only [deadJ, List.mem_cons, List.not_mem_nil, or_false] at hj
  rcases hj with rfl | rfl | rfl | rfl | rfl | rfl | rfl | rfl | rfl | rfl | rfl
  · exact t3
  · exact .inr (.inr (.inr (.inr (.inl ⟨rfl, h1.1, h1.2⟩))))
  · exact t2
  · exact .inl ⟨rfl, h1.1, h1.2, hv⟩
  · exact t3
  · exact t2
  · exact .inr (.inr (.inr (.inr (.inr (.inr (.inl rfl))))))
  · exact t2
  · exact t3
  · exact .inr (.inr (.inr (.inr (.inr (.inr (.inr rfl))))))
  · exact t2

theorem DriveDead_run (h : AHeap) (nx : Nat) (a : Option (Nat × Nat)) (cells : List (List AV)) (hB : cells.length * 32 ≤ 140737488351232) (ht : ∀ c ∈ cells, Ty h nx ActSh c) (sl : Sl h nx a cells.length ActSh.n cells.flatten) (x : Int) (_hx : (Lit.int .i64 x).wf = true) (x2 : Int) (_hx2 : (Lit.int .i64 x2).wf = true) :
    ∃ f h' nx', callP Try.prog keepT f Y0 7 [.slice a cells.length false, .int .i64 x, .int .i64 x2] h nx = some (.bool true, h', nx') := by
  obtain ⟨l, rfl⟩ := acts_of ht
  rw [List.length_map] at hB sl ⊢
  refine ⟨2001, ?_⟩
  rw [F7_eq]
  dsimp only
  have x1 : Ext h nx (h.put (nx + 2) (some ⟨[.int .i64 1, .int .i64 3, .int .i64 4, .int .i64 6], 1, true⟩)) (nx + 5) := ⟨by omega, fun i hi => put_ne (by omega)⟩
  have e1 := put_same h (nx + 2) (some ⟨[.int .i64 1, .int .i64 3, .int .i64 4, .int .i64 6], 1, true⟩)
  generalize h.put (nx + 2) (some ⟨[.int .i64 1, .int .i64 3, .int .i64 4, .int .i64 6], 1, true⟩) = h1 at *
  obtain ⟨a2, c2, h2, n2, A2, g1, g2, g3, g4, g5, g6⟩ := acts_spec (f := 2000) (by omega) Y0 (kb := nx + 2) (xa := a) false true (l := l) (ks := [1, 3, 4, 6]) (m := 40) (sl.ext x1) e1 (by omega) (by decide) (by decide) (by omega) (by omega)
  change callP Try.prog keepT 2000 Y0 18 [.slice a l.length false, .int .i64 40, .slice (some (nx + 2, 0)) 4 true] h1 (nx + 5) = _ at g1
  rw [g1]
  simp only [bind_some', asI_int, asB_bool, asStr_str, asP_ptr, asSl_sl, asAgg_1, asAgg_2, asAgg_3, asAgg_4, asTup_0, asTup_2, asTup_3, asTup_4, if_true', if_false', if_not_true', if_not_false', getD_0, getD_1, getD_2, getD_3]
  have hlen : (actsL [1, 3, 4, 6] 40 l).length ≤ 40 := by simp [actsL]; omega
  have ok := actsL_ok (ks := [1, 3, 4, 6]) (by decide) (m := 40) (l := l) (P := fun k => k = 1 ∨ k = 3 ∨ k = 4 ∨ k = 6) (by simp)
  have good1 : ∀ j ∈ actsL [1, 3, 4, 6] 40 l, JobG j := fun j hj => by
    obtain ⟨q1, q2, q3, q4⟩ := ok j hj
    rcases q1 with q | q | q | q
    · exact .inl ⟨q, q2, q3, q4 (.inl q)⟩
    · exact .inr (.inr (.inl q))
    · exact .inr (.inr (.inr (.inl q)))
    · exact .inr (.inr (.inr (.inr ⟨q, q2, q3, q4 (.inr q)⟩)))
  generalize actsL [1, 3, 4, 6] 40 l = jobs1 at *
  clear ok
  have l1 := x1.1; have l2 := g2.1
  rw [picked_spec (f := 2000) (by omega) Y0 x 8 (by omega) (by omega)]
  simp only [bind_some', asI_int, asB_bool, asStr_str, asP_ptr, asSl_sl, asAgg_1, asAgg_2, asAgg_3, asAgg_4, asTup_0, asTup_2, asTup_3, asTup_4, if_true', if_false', if_not_true', if_not_false', getD_0, getD_1, getD_2, getD_3]
  obtain ⟨P1, P2⟩ := pickL_in (x := x) (n := 8) (by omega)
  obtain ⟨i, hi⟩ : ∃ i : Nat, pickL x 8 = (i : Int) := ⟨(pickL x 8).toNat, by omega⟩
  have hi8 : i < 8 := by omega
  rw [hi]
  obtain ⟨n4, hn4⟩ : ∃ n4, n4 = n2 + 3 + pickK x 8 := ⟨_, rfl⟩
  rw [← hn4]
  have l4 : n2 + 3 ≤ n4 := by omega
  clear hn4
  obtain ⟨b, h6, n6, r1, r2, r3, r4, r5⟩ := sec_spec (f := 2000) (by omega) Y0 x2 h2 (n4 + 26)
  rw [r1]
  simp only [bind_some', asI_int, asB_bool, asStr_str, asP_ptr, asSl_sl, asAgg_1, asAgg_2, asAgg_3, asAgg_4, asTup_0, asTup_2, asTup_3, asTup_4, if_true', if_false', if_not_true', if_not_false', getD_0, getD_1, getD_2, getD_3]
  have l6 := r2.1
  obtain ⟨F, hF⟩ : ∃ F : List AV, F = [.int .i64 3, .int .i64 0, .int .i64 0, .slice none 0 false, .int .i64 5, .int .i64 (i : Int), .int .i64 0, .slice none 0 false, .int .i64 2, .int .i64 (i : Int), .int .i64 0, .slice none 0 false, .int .i64 1, .int .i64 (i : Int), .int .i64 0, .slice (some (b, 0)) 128 true, .int .i64 3, .int .i64 0, .int .i64 0, .slice none 0 false, .int .i64 2, .int .i64 (i : Int), .int .i64 0, .slice none 0 false, .int .i64 7, .int .i64 0, .int .i64 0, .slice none 0 false, .int .i64 2, .int .i64 (i : Int), .int .i64 0, .slice none 0 false, .int .i64 3, .int .i64 0, .int .i64 0, .slice none 0 false, .int .i64 8, .int .i64 0, .int .i64 0, .slice none 0 false, .int .i64 2, .int .i64 (i : Int), .int .i64 0, .slice none 0 false] := ⟨_, rfl⟩
  rw [← hF]
  have hFf : F = ([cellsD ⟨3, 0, 0, []⟩ (.slice none 0 false), cellsD (mk 5 i []) (.slice none 0 false), cellsD (mk 2 i []) (.slice none 0 false), cellsD (mk 1 i []) (.slice (some (b, 0)) 128 true), cellsD ⟨3, 0, 0, []⟩ (.slice none 0 false), cellsD (mk 2 i []) (.slice none 0 false), cellsD ⟨7, 0, 0, []⟩ (.slice none 0 false), cellsD (mk 2 i []) (.slice none 0 false), cellsD ⟨3, 0, 0, []⟩ (.slice none 0 false), cellsD ⟨8, 0, 0, []⟩ (.slice none 0 false), cellsD (mk 2 i []) (.slice none 0 false)] : List (List AV)).flatten := by rw [hF]; rfl
  have hFl : F.length = 11 * 4 := by rw [hF]; rfl
  clear hF
  have hsrc := src_lits (h := h6) (id := n4 + 23) (es := 4) (k := 11) (by omega) hFl
  have xf : Frm (fun j => j = n4 + 23) h2 n2 (h6.put (n4 + 23) (some ⟨F, 4, true⟩)) n6 := ⟨by omega, fun j hj hd => by rw [put_ne hd, r2.2 j (by omega)]⟩
  have eb : (h6.put (n4 + 23) (some ⟨F, 4, true⟩)) b = _ := (put_ne (by omega)).trans r5
  generalize h6.put (n4 + 23) (some ⟨F, 4, true⟩) = h8 at *
  rw [hsrc]
  simp only [bind_some', asI_int, asB_bool, asStr_str, asP_ptr, asSl_sl, asAgg_1, asAgg_2, asAgg_3, asAgg_4, asTup_0, asTup_2, asTup_3, asTup_4, if_true', if_false', if_not_true', if_not_false', getD_0, getD_1, getD_2, getD_3]
  have j8 : Jobs h8 n6 (fun j => A2 j ∨ j = n4 + 23 ∨ j = n4 + 24) a2 jobs1 := g3.go xf (fun j hj q => by omega) (fun j hj q => by rcases q with q | q; exact q; omega) (fun _ q => .inl q) (fun j q z => by have := g4 _ (g3.2 _ q); omega)
  have ob : OwnSl h8 (n4 + 26) n6 (some (b, 0)) 128 1 (ints .u8 (secL x2)) := ⟨by simp [ints, secL_len], .inr ⟨b, rfl, r3, r4, eb⟩⟩
  have bb : Byt .u8 h8 n6 (fun j => A2 j ∨ j = n4 + 23 ∨ j = n4 + 24) (.slice (some (b, 0)) 128 true) (secL x2) := ⟨some (b, 0), true, by rw [secL_len], by rw [secL_len]; exact ob.sl, by rw [secL_len]; exact ob.av fun j j1 _ q => by rcases q with q | q; have := g4 j q; omega; omega⟩
  have rows : All2 (JobR h8 n6 fun j => A2 j ∨ j = n4 + 23 ∨ j = n4 + 24) (deadJ i (secL x2)) [cellsD ⟨3, 0, 0, []⟩ (.slice none 0 false), cellsD (mk 5 i []) (.slice none 0 false), cellsD (mk 2 i []) (.slice none 0 false), cellsD (mk 1 i []) (.slice (some (b, 0)) 128 true), cellsD ⟨3, 0, 0, []⟩ (.slice none 0 false), cellsD (mk 2 i []) (.slice none 0 false), cellsD ⟨7, 0, 0, []⟩ (.slice none 0 false), cellsD (mk 2 i []) (.slice none 0 false), cellsD ⟨3, 0, 0, []⟩ (.slice none 0 false), cellsD ⟨8, 0, 0, []⟩ (.slice none 0 false), cellsD (mk 2 i []) (.slice none 0 false)] :=
    .cons ⟨_, rfl, byt_nil⟩ (.cons ⟨_, rfl, byt_nil⟩ (.cons ⟨_, rfl, byt_nil⟩ (.cons ⟨_, rfl, bb⟩ (.cons ⟨_, rfl, byt_nil⟩ (.cons ⟨_, rfl, byt_nil⟩ (.cons ⟨_, rfl, byt_nil⟩ (.cons ⟨_, rfl, byt_nil⟩ (.cons ⟨_, rfl, byt_nil⟩ (.cons ⟨_, rfl, byt_nil⟩ (All2.one ⟨_, rfl, byt_nil⟩))))))))))
  obtain ⟨e10, p1, p2, p3, p4, p5⟩ := j8.app2 c2 (bytes := 48) (id := n4 + 24) rows (fun r hr => by simp only [List.mem_cons, List.not_mem_nil, or_false] at hr; rcases hr with rfl | rfl | rfl | rfl | rfl | rfl | rfl | rfl | rfl | rfl | rfl <;> rfl) [n4 + 23] (growOk_of (by simp [deadJ]; omega) (by omega)) (fun q => by have := g4 _ (g3.2 _ q); omega) (fun _ => .inr (.inr rfl)) (m := n6) (Nat.le_refl _) (by omega)
  rw [show (deadJ i (secL x2)).length = 11 from rfl, ← hFf] at p1
  rw [p1]
  simp only [bind_some', asI_int, asB_bool, asStr_str, asP_ptr, asSl_sl, asAgg_1, asAgg_2, asAgg_3, asAgg_4, asTup_0, asTup_2, asTup_3, asTup_4, if_true', if_false', if_not_true', if_not_false', getD_0, getD_1, getD_2, getD_3]
  have w11 : JRows (h8.puts e10.sets) n6 e10.a (jobs1 ++ deadJ i (secL x2)) := p3.rows
  generalize h8.puts e10.sets = h11 at *
  rw [p2]
  obtain ⟨a12, c12, h12, n12, k1, k2, k3⟩ := play_spec (f := 2000) (by omega) Y0 e10.c (n0 := n6 + 7) (w11.ext ⟨by omega, fun _ _ => rfl⟩) (fun j hj => by
    rcases List.mem_append.1 hj with q | q
    · exact (good1 j q).ok
    · exact dead_ok hi8 (secL_len x2) j q) (by simp [deadJ]; omega)
  rw [k1]
  simp only [bind_some', asI_int, asB_bool, asStr_str, asP_ptr, asSl_sl, asAgg_1, asAgg_2, asAgg_3, asAgg_4, asTup_0, asTup_2, asTup_3, asTup_4, if_true', if_false', if_not_true', if_not_false', getD_0, getD_1, getD_2, getD_3]
  have l12 := k2.1
  have gS := st_gd fresh_gd good1
  obtain ⟨o0, o1, d2, o3, o4, o6, o9, hr⟩ := dead_run gS hi8 (secL_len x2)
  rw [runL_app, hr] at k3
  have hrl := runL_len (freshL 8) jobs1
  have ht := dead_tail (f := 2000) (by omega) (Y := Y0) (nx := n12 + 9) (by omega) (c := c12) (by omega) k3
  rw [hrl] at ht
  rw [if_neg (by decide), if_neg (by simp)]
  rw [show (jobs1 ++ deadJ i (secL x2)).length = jobs1.length + 11 by simp [deadJ]]
  exact ht

end Go.Proofs.Ytbekpkapkaifiaa.T
