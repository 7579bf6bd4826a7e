/- The sweep, walked. -/
import Derived.Test.YtophneodoibcgaaX4
set_option linter.unusedVariables false
set_option linter.unusedSimpArgs false
namespace Go.Proofs.Ytophneodoibcgaa.T
open Go Go.RowKit Go.Proofs

section
variable {f lf : Nat} {Y : YldF} {g : Nat} {W : Int → Bool} {h0 : AHeap} {n0 bx : Nat} {xa : Option (Nat × Nat)} {xc : Option Nat} {ds : RL}

/-- What the loop's result is. -/
def SwR (h0 : AHeap) (n0 : Nat) (F : RL) (r : Option Res) : Prop := ∃ oa oc h' nx', r = some (.slice oa F.length oc, h', nx') ∧ OwnSl h' n0 nx' oa F.length 2 (pairCells F) ∧ Ext h0 n0 h' nx'

theorem swept_j4 (hw : ∀ (dd : Int) (h : AHeap) (nx : Nat), callP Try.prog keepT f Y g [.int .i64 dd] h nx = some (.bool (W dd), h, nx + 4)) {P : Option Res → Prop} {k0 : Nat} {dep fr at_ : Int} {out : RL} (hout : out.length ≤ 2000) {i : Nat} {oa : Option (Nat × Nat)} {oc : Option Nat} {h : AHeap} {nx : Nat} (w : OwnSl h n0 nx oa out.length 2 (pairCells out)) (x : Ext h0 n0 h nx)
    (next : ∀ (oa' : Option (Nat × Nat)) (oc' : Option Nat) (h' : AHeap) (nx' : Nat), OwnSl h' n0 nx' oa' (actS W at_ dep fr out).2.length 2 (pairCells (actS W at_ dep fr out).2) → Ext h0 n0 h' nx' →
      P (F20_L1 (callP Try.prog keepT f) Y lf k0 (.fn g [] []) (some (bx, 0)) oa' (actS W at_ dep fr out).2.length oc' dep (actS W at_ dep fr out).1 (i : Int) h' nx')) :
    P (F20_J4 (callP Try.prog keepT f) Y lf k0 (.fn g [] []) (some (bx, 0)) oa out.length oc dep fr (i : Int) at_ h nx) := by
  have hn := x.1
  have e0 : ([] : List AV) ++ [.int .i64 dep] ++ [] = [.int .i64 dep] := rfl
  rw [F20_J4_eq, asCal_fn]
  simp only [mst_]
  rw [callC_fn, e0, hw]
  simp only [mst_]
  by_cases hW : W dep = true
  · rw [if_pos hW]
    by_cases hf : fr < 0
    · have ha : actS W at_ dep fr out = (at_, out) := by unfold actS; rw [if_pos (by simp [hW, hf])]
      rw [ha] at next
      rw [if_pos (decide_eq_true hf)]
      exact next oa oc h _ (w.le (by omega)) (x.le (by omega))
    · have ha : actS W at_ dep fr out = (fr, out) := by unfold actS; rw [if_neg (by simp [hf]), if_neg (by simp [hW])]
      rw [ha] at next
      rw [if_neg (show ¬ decide (fr < 0) = true by rw [decide_eq_true_eq]; exact hf), hw]
      simp only [mst_]
      rw [if_neg (show ¬ (!W dep) = true by simp [hW])]
      exact next oa oc h _ (w.le (by omega)) (x.le (by omega))
  · rw [if_neg hW, hw]
    simp only [mst_]
    rw [if_pos (show (!W dep) = true by simp [hW])]
    by_cases hf : fr ≥ 0
    · have ha : actS W at_ dep fr out = (-1, out ++ [(fr, at_)]) := by unfold actS; rw [if_neg (by simp [hW]), if_pos (by simp [hW, hf])]
      rw [ha] at next
      rw [if_pos (decide_eq_true hf)]
      rw [src_lit (es := 2) rfl]
      simp only [mst_]
      obtain ⟨N, hN⟩ : ∃ N, N = nx + 8 + 4 + 9 + 4 := ⟨_, rfl⟩
      rw [← hN]
      obtain ⟨e3, p1, p2, p3, p4⟩ := (w.put (id := N + 4) (b := some ⟨[.int .i64 fr, .int .i64 at_], 2, true⟩) (nx' := N + 5) (by omega) (by omega)).append (c := oc) (bytes := 16) (id := N + 5) (k := 1) (ws := [.int .i64 fr, .int .i64 at_]) (rd := [N + 4]) (by decide) rfl (growOk_of (by omega) (by omega)) (by omega) (by omega)
      rw [p1]
      simp only [mst_]
      have hl2 : out.length + 1 = (out ++ [(fr, at_)]).length := by simp
      have hf2 : pairCells out ++ [.int .i64 fr, .int .i64 at_] = pairCells (out ++ [(fr, at_)]) := by rw [pairCells_app]; rfl
      rw [hl2] at p2 p3
      rw [hf2] at p3
      rw [p2]
      refine next e3.a e3.c _ _ (p3.le (by omega)) ⟨by omega, fun j hj => ?_⟩
      rw [p4.2 j hj, put_ne (by omega)]; exact x.2 j hj
    · have ha : actS W at_ dep fr out = (fr, out) := by unfold actS; rw [if_neg (by simp [hW]), if_neg (by simp [hf])]
      rw [ha] at next
      rw [if_neg (show ¬ decide (fr ≥ 0) = true by rw [decide_eq_true_eq]; exact hf)]
      exact next oa oc h _ (w.le (by omega)) (x.le (by omega))

theorem sweep_cons (e : Int × Int) (r : RL) (dep fr : Int) (out : RL) : sweep W (e :: r) dep fr out = if nextAt e.1 r = true then sweep W r (dep + e.2) fr out else sweep W r (dep + e.2) (actS W e.1 (dep + e.2) fr out).1 (actS W e.1 (dep + e.2) fr out).2 := by rw [sweep]
theorem act_len (a dep fr : Int) (out : RL) : (actS W a dep fr out).2.length ≤ out.length + 1 := by
  unfold actS
  split
  · simp
  · split
    · simp
    · simp

theorem swept_loop (hw : ∀ (dd : Int) (h : AHeap) (nx : Nat), callP Try.prog keepT f Y g [.int .i64 dd] h nx = some (.bool (W dd), h, nx + 4)) (hlf : 1000 ≤ lf) (hds : ds.length ≤ 900) (hby : ∀ e ∈ ds, -1 ≤ e.2 ∧ e.2 ≤ 1) (s : RS h0 n0 xa ds) (hb : h0 bx = some ⟨[.slice xa ds.length xc], 1, true⟩) (hbn : bx < n0) (d : Nat) :
    (∀ (k0 i : Nat) (dep fr : Int) (out : RL) (oa : Option (Nat × Nat)) (oc : Option Nat) (h : AHeap) (nx : Nat), i + d = ds.length → d < k0 → -(i : Int) ≤ dep ∧ dep ≤ i → out.length ≤ i → OwnSl h n0 nx oa out.length 2 (pairCells out) → Ext h0 n0 h nx →
      SwR h0 n0 (sweep W (ds.drop i) dep fr out) (F20_L1 (callP Try.prog keepT f) Y lf k0 (.fn g [] []) (some (bx, 0)) oa out.length oc dep fr (i : Int) h nx)) ∧
    (∀ (k0 k1 i : Nat) (dep fr at_ : Int) (out : RL) (oa : Option (Nat × Nat)) (oc : Option Nat) (h : AHeap) (nx : Nat), i + d = ds.length → d < k0 → d < k1 → -(i : Int) ≤ dep ∧ dep ≤ i → out.length + 1 ≤ i → OwnSl h n0 nx oa out.length 2 (pairCells out) → Ext h0 n0 h nx →
      SwR h0 n0 (if nextAt at_ (ds.drop i) = true then sweep W (ds.drop i) dep fr out else sweep W (ds.drop i) dep (actS W at_ dep fr out).1 (actS W at_ dep fr out).2)
        (F20_L2 (callP Try.prog keepT f) Y lf k0 k1 (.fn g [] []) (some (bx, 0)) oa out.length oc dep fr (i : Int) at_ h nx)) := by
  induction d with
  | zero =>
    have A : (∀ (k0 i : Nat) (dep fr : Int) (out : RL) (oa : Option (Nat × Nat)) (oc : Option Nat) (h : AHeap) (nx : Nat), i + 0 = ds.length → 0 < k0 → -(i : Int) ≤ dep ∧ dep ≤ i → out.length ≤ i → OwnSl h n0 nx oa out.length 2 (pairCells out) → Ext h0 n0 h nx →
      SwR h0 n0 (sweep W (ds.drop i) dep fr out) (F20_L1 (callP Try.prog keepT f) Y lf k0 (.fn g [] []) (some (bx, 0)) oa out.length oc dep fr (i : Int) h nx)) := by
      intro k0 i dep fr out oa oc h nx e hk _ _ w x
      obtain ⟨k0, rfl⟩ : ∃ m, k0 = m + 1 := ⟨k0 - 1, by omega⟩
      have hbx : h bx = some ⟨[.slice xa ds.length xc], 1, true⟩ := (x.2 bx hbn).trans hb
      rw [List.drop_of_length_le (by omega)]
      rw [F20_L1_eq]
      simp only [mst_]
      rw [ld_at hbx (v := .slice xa ds.length xc) rfl]
      simp only [mst_]
      rw [if_neg (by rw [decide_eq_true_eq]; omega)]
      exact ⟨oa, oc, h, _, rfl, w.le (by omega), x.le (by omega)⟩
    refine ⟨A, ?_⟩
    intro k0 k1 i dep fr at_ out oa oc h nx e hk0 hk1 hdep hout w x
    obtain ⟨k1, rfl⟩ : ∃ m, k1 = m + 1 := ⟨k1 - 1, by omega⟩
    have hbx : h bx = some ⟨[.slice xa ds.length xc], 1, true⟩ := (x.2 bx hbn).trans hb
    have hd : ds.drop i = [] := List.drop_of_length_le (by omega)
    rw [hd, if_neg (by simp [nextAt])]
    rw [F20_L2_eq]
    simp only [mst_]
    rw [ld_at hbx (v := .slice xa ds.length xc) rfl]
    simp only [mst_]
    rw [if_neg (by rw [decide_eq_true_eq]; omega)]
    have hal := act_len (W := W) at_ dep fr out
    refine swept_j4 hw (by omega) (w.le (by omega)) (x.le (by omega)) fun oa' oc' h' nx' w' x' => ?_
    have := A k0 i dep (actS W at_ dep fr out).1 (actS W at_ dep fr out).2 oa' oc' h' nx' e hk0 hdep (by omega) w' x'
    rw [hd] at this
    exact this
  | succ d ih =>
    obtain ⟨ihA, ihB⟩ := ih
    -- one edge is taken
    have J3 : ∀ (k0 k1 i : Nat) (dep fr : Int) (out : RL) (oa : Option (Nat × Nat)) (oc : Option Nat) (h : AHeap) (nx : Nat), i + (d + 1) = ds.length → d < k0 → d < k1 → -(i : Int) ≤ dep ∧ dep ≤ i → out.length ≤ i → OwnSl h n0 nx oa out.length 2 (pairCells out) → Ext h0 n0 h nx → ∀ hi : i < ds.length,
        SwR h0 n0 (sweep W (ds.drop i) dep fr out) (F20_J3 (callP Try.prog keepT f) Y lf k0 k1 (.fn g [] []) (some (bx, 0)) oa out.length oc dep fr (i : Int) ds[i].1 h nx) := by
      intro k0 k1 i dep fr out oa oc h nx e hk0 hk1 hdep hout w x hi
      have hbx : h bx = some ⟨[.slice xa ds.length xc], 1, true⟩ := (x.2 bx hbn).trans hb
      have hr : ds[i]? = some ds[i] := List.getElem?_eq_getElem hi
      obtain ⟨_, r2, _⟩ := (s.ext x).rd (R := Res) hr
      have hb1 := hby ds[i] (List.getElem_mem hi)
      rw [F20_J3_eq]
      simp only [mst_]
      rw [ld_at hbx (v := .slice xa ds.length xc) rfl]
      simp only [mst_]
      rw [r2]
      simp only [mst_]
      rw [wsucc (i := i) (by omega), wA (x := dep + ds[i].2) (by omega) (by omega)]
      have := ihB k0 k1 (i + 1) (dep + ds[i].2) fr ds[i].1 out oa oc h (nx + 11) (by omega) hk0 hk1 (by omega) (by omega) (w.le (by omega)) (x.le (by omega))
      rw [List.drop_eq_getElem_cons hi, sweep_cons]
      exact this
    have A : (∀ (k0 i : Nat) (dep fr : Int) (out : RL) (oa : Option (Nat × Nat)) (oc : Option Nat) (h : AHeap) (nx : Nat), i + (d + 1) = ds.length → d + 1 < k0 → -(i : Int) ≤ dep ∧ dep ≤ i → out.length ≤ i → OwnSl h n0 nx oa out.length 2 (pairCells out) → Ext h0 n0 h nx →
      SwR h0 n0 (sweep W (ds.drop i) dep fr out) (F20_L1 (callP Try.prog keepT f) Y lf k0 (.fn g [] []) (some (bx, 0)) oa out.length oc dep fr (i : Int) h nx)) := by
      intro k0 i dep fr out oa oc h nx e hk hdep hout w x
      obtain ⟨k0, rfl⟩ : ∃ m, k0 = m + 1 := ⟨k0 - 1, by omega⟩
      obtain ⟨lf', rfl⟩ : ∃ m, lf = m + 1 := ⟨lf - 1, by omega⟩
      have hi : i < ds.length := by omega
      have hbx : h bx = some ⟨[.slice xa ds.length xc], 1, true⟩ := (x.2 bx hbn).trans hb
      have hr : ds[i]? = some ds[i] := List.getElem?_eq_getElem hi
      obtain ⟨r1, _, _⟩ := (s.ext x).rd (R := Res) hr
      rw [F20_L1_eq]
      simp only [mst_]
      rw [ld_at hbx (v := .slice xa ds.length xc) rfl]
      simp only [mst_]
      rw [if_pos (decide_eq_true (by omega)), ld_at hbx (v := .slice xa ds.length xc) rfl]
      simp only [mst_]
      rw [r1]
      simp only [mst_]
      rw [F20_L2_eq]
      simp only [mst_]
      rw [ld_at hbx (v := .slice xa ds.length xc) rfl]
      simp only [mst_]
      rw [if_pos (decide_eq_true (by omega)), ld_at hbx (v := .slice xa ds.length xc) rfl]
      simp only [mst_]
      rw [r1]
      simp only [mst_]
      rw [if_pos (beq_self_eq_true _)]
      exact J3 k0 lf' i dep fr out oa oc h _ e (by omega) (by omega) hdep hout (w.le (by omega)) (x.le (by omega)) hi
    refine ⟨A, ?_⟩
    intro k0 k1 i dep fr at_ out oa oc h nx e hk0 hk1 hdep hout w x
    obtain ⟨k1, rfl⟩ : ∃ m, k1 = m + 1 := ⟨k1 - 1, by omega⟩
    have hi : i < ds.length := by omega
    have hbx : h bx = some ⟨[.slice xa ds.length xc], 1, true⟩ := (x.2 bx hbn).trans hb
    have hr : ds[i]? = some ds[i] := List.getElem?_eq_getElem hi
    obtain ⟨r1, _, _⟩ := (s.ext x).rd (R := Res) hr
    have hnx : nextAt at_ (ds.drop i) = (ds[i].1 == at_) := by rw [List.drop_eq_getElem_cons hi]; rfl
    rw [F20_L2_eq]
    simp only [mst_]
    rw [ld_at hbx (v := .slice xa ds.length xc) rfl]
    simp only [mst_]
    rw [if_pos (decide_eq_true (by omega)), ld_at hbx (v := .slice xa ds.length xc) rfl]
    simp only [mst_]
    rw [r1]
    simp only [mst_]
    by_cases c : ds[i].1 = at_
    · rw [if_pos (show nextAt at_ (ds.drop i) = true by rw [hnx, c]; exact beq_self_eq_true _), if_pos (show (ds[i].1 == at_) = true by rw [c]; exact beq_self_eq_true _)]
      subst c
      exact J3 k0 k1 i dep fr out oa oc h _ e (by omega) (by omega) hdep (by omega) (w.le (by omega)) (x.le (by omega)) hi
    · have hc : ¬ (ds[i].1 == at_) = true := by simpa using c
      rw [if_neg (show ¬ nextAt at_ (ds.drop i) = true by rw [hnx]; exact hc), if_neg hc]
      have hal := act_len (W := W) at_ dep fr out
      refine swept_j4 hw (by omega) (w.le (by omega)) (x.le (by omega)) fun oa' oc' h' nx' w' x' => ?_
      exact A k0 i dep (actS W at_ dep fr out).1 (actS W at_ dep fr out).2 oa' oc' h' nx' e hk0 hdep (by omega) w' x'
end

theorem swept_spec {f : Nat} (hf : 1100 ≤ f) {Y : YldF} {g : Nat} {W : Int → Bool} (hw : ∀ (f : Nat) (dd : Int) (h : AHeap) (nx : Nat), 1 ≤ f → callP Try.prog keepT f Y g [.int .i64 dd] h nx = some (.bool (W dd), h, nx + 4)) {h : AHeap} {n0 nx : Nat} (hn : n0 ≤ nx) {a : Option (Nat × Nat)} (c : Option Nat) {d : RL} (hd : d.length ≤ 900) (hd1 : d.length ≠ 1) (hby : ∀ e ∈ d, -1 ≤ e.2 ∧ e.2 ≤ 1) (w : OwnSl h n0 nx a d.length 2 (pairCells d)) :
    ∃ oa oc h' nx', callP Try.prog keepT f Y 20 [.slice a d.length c, .fn g [] []] h nx = some (.slice oa (sweptL W d).length oc, h', nx') ∧ OwnSl h' nx nx' oa (sweptL W d).length 2 (pairCells (sweptL W d)) ∧ Ext h n0 h' nx' := by
  obtain ⟨f, rfl⟩ : ∃ m, f = m + 2 := ⟨f - 2, by omega⟩
  rw [F20_eq]
  dsimp only
  obtain ⟨h1, hh1⟩ : ∃ h1, h1 = h.put nx (some ⟨[.slice a d.length c], 1, true⟩) := ⟨_, rfl⟩
  rw [← hh1]
  have e1 : h1 nx = some ⟨[.slice a d.length c], 1, true⟩ := by rw [hh1, put_same]
  rw [ld_at e1 (v := .slice a d.length c) rfl]
  simp only [mst_]
  rw [F27_eq]
  -- the sort
  have hsl := sortAt_len d
  obtain ⟨h4, q1, q2, q3, q4⟩ : ∃ h4, orcK [2, 46, 28] [.iface 46 (.slice a d.length c), .fn 28 [] [.ptr (some (nx, 0))]] h1 (nx + 6) = some (.tuple [], h4, nx + 6) ∧ Sl h4 (nx + 6) a (sortAt d).length 2 (pairCells (sortAt d)) ∧ h4 nx = some ⟨[.slice a d.length c], 1, true⟩ ∧ Ext h n0 h4 (nx + 6) := by
    have x1 : Ext h n0 h1 (nx + 6) := ⟨by omega, fun j hj => by rw [hh1, put_ne (by omega)]⟩
    show ∃ h4, (if (46 == 46 && 28 == 28 && ([] : List AV).isEmpty) = true then orcSlice a d.length [.ptr (some (nx, 0))] h1 (nx + 6) else none) = _ ∧ _
    rw [if_pos (by decide)]
    unfold orcSlice
    rcases w.2 with ⟨rfl, e0⟩ | ⟨i, rfl, i0, i1, ei⟩
    · rw [e0] at hsl
      have : sortAt d = [] := List.length_eq_zero_iff.1 hsl
      rw [if_pos e0]
      refine ⟨h1, ?_, ?_, ?_, ?_⟩
      · rfl
      · rw [this]; exact ⟨rfl, fun j hj => by cases hj⟩
      · exact e1
      · exact x1
    · have ei1 : h1 i = some ⟨pairCells d, 2, true⟩ := by rw [hh1, put_ne (by omega)]; exact ei
      by_cases e0 : d.length = 0
      · rw [if_pos e0]
        rw [e0] at hsl
        have : sortAt d = [] := List.length_eq_zero_iff.1 hsl
        refine ⟨h1, ?_, ?_, ?_, ?_⟩
        · rfl
        · rw [this]; exact ⟨rfl, fun j hj => by cases hj⟩
        · exact e1
        · exact x1
      · rw [if_neg e0]
        have hcap : capOf [.ptr (some (nx, 0))] = some nx := rfl
        rw [Option.bind_some, hcap, Option.bind_some, ei1, Option.bind_some, e1, Option.bind_some, if_pos (by
          have h1 := pairCells_len d
          have h2 : Nat.blt (d.length * 2) LB = true := by rw [Nat.blt_eq]; have : LB = 4611686018427387904 := rfl; omega
          have h3 : Nat.blt 1 d.length = true := by rw [Nat.blt_eq]; omega
          have h4 : (nx == i) = false := by rw [beq_eq_false_iff_ne]; omega
          simp only [h1, h2, h3, h4, boxOf]; simp), pairsOf_mk, Option.bind_some]
        have hpl := pairCells_len (sortAt d)
        refine ⟨_, rfl, ⟨by rw [hpl], fun j hj => ⟨(i, 0), _, rfl, by simp only; omega, put_same _ _ _, rfl, by simp only; omega, fun q _ => by rw [Nat.zero_add]⟩⟩, by rw [put_ne (by omega)]; exact e1, ⟨by omega, fun j hj => ?_⟩⟩
        rw [put_ne (by omega)]; exact x1.2 j hj
  rw [q1]
  simp only [mst_]
  have q2' : RS h4 (nx + 6 + 4) a (sortAt d) := Sl.ext q2 ⟨by omega, fun _ _ => rfl⟩
  rw [← hsl] at q3 hd
  obtain ⟨oa, oc, h', nx', z1, z2, z3⟩ := (swept_loop (f := f + 1) (lf := f + 1) (W := W) (fun dd h nx => hw _ dd h nx (by omega)) (by omega) hd (fun e he => hby e ((sortAt_perm d).mem_iff.1 he)) q2' q3 (n0 := nx + 6 + 4) (by omega) (sortAt d).length).1 (f + 1) 0 0 (-1) [] none none h4 (nx + 6 + 4) (by omega) (by omega) (by omega) (by simp) (OwnSl.nil _ _ _ _) ⟨Nat.le_refl _, fun _ _ => rfl⟩
  have z1' : F20_L1 (callP Try.prog keepT (f + 1)) Y (f + 1) (f + 1) (.fn g [] []) (some (nx, 0)) none 0 none 0 (-1) 0 h4 (nx + 6 + 4) = some (.slice oa (sweptL W d).length oc, h', nx') := z1
  refine ⟨oa, oc, h', nx', z1', z2.from (by omega), ⟨by have := z3.1; omega, fun j hj => (z3.2 j (by omega)).trans (q4.2 j hj)⟩⟩

end Go.Proofs.Ytophneodoibcgaa.T
