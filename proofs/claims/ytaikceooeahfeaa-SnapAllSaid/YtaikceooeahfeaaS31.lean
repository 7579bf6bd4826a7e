/- Snaps: SnapAll, the law. -/
import Derived.Test.YtaikceooeahfeaaS30
set_option linter.unusedVariables false
set_option linter.unusedSimpArgs false
namespace Go.Proofs.Ytaikceooeahfeaa.T
open Go Go.RowKit Go.Proofs

theorem all_l4 {f lf : Nat} (hf : 1700 ≤ f) {x8a : Option (Nat × Nat)} {x8c : Option Nat} {N cb : Nat} {h : AHeap} {cnt : List Int} {goneL : List Bool} (hN : N ≤ 60) (w : CI cnt goneL) (hg : ∀ b, goneL[b]? = some true ↔ b < N) (e8 : x8a = some (cb, 0)) (hc : h cb = some ⟨ints .i64 cnt, 1, true⟩) (d : Nat) :
    ∀ (m0 j nx : Nat), j + d = 60 → d < m0 → ∃ h' nx', F4_L4 (callP Try.prog keepT f) Y0 lf m0 (N : Int) x8a 60 x8c (j : Int) h nx = some (.bool true, h', nx') := by
  subst e8
  induction d with
  | zero =>
    intro m0 j nx e hl
    obtain ⟨m0, rfl⟩ : ∃ m, m0 = m + 1 := ⟨m0 - 1, by omega⟩
    rw [F4_L4_eq, if_neg (by rw [decide_eq_true_eq]; omega)]
    have sl : Sl (h.put (nx + 3) (some ⟨[.int .i64 1, .int .i64 0], 2, true⟩)) (nx + 10) (some (nx + 3, 0)) ([(1, 0)] : List (Int × Int)).length 2 (([(1, 0)] : List (Int × Int)).map mrow).flatten :=
      ⟨rfl, fun j _ => ⟨(nx + 3, 0), _, rfl, by simp only; omega, put_same _ _ _, rfl, (by show 0 + 1 * 2 ≤ 2; decide), fun q _ => by rw [Nat.zero_add]; rfl⟩⟩
    obtain ⟨oa, oc, h', nx', r1, r2, r3, r4⟩ := snapped_spec (f := f) hf (some 1) (by decide) sl
    have r1' : callP Try.prog keepT f Y0 7 [.slice (some (nx + 3, 0)) 1 (some 1)] (h.put (nx + 3) (some ⟨[.int .i64 1, .int .i64 0], 2, true⟩)) (nx + 10) = some (.tuple [.slice oa 1 oc, .bool true], h', nx') := r1
    dsimp only
    rw [r1']
    simp only [mst_]
    obtain ⟨g0, pe, l1⟩ : ∃ g0 : Int × List Int, playP pk0 [(1, 0)] = [g0] ∧ g0.1 = 0 := ⟨_, rfl, rfl⟩
    rw [pe] at r2
    have rg : Rows (fun g r => Gon h' nx' (fun _ => False) r g) h' nx' (fun _ => False) oa 2 [g0] := (r2.rows (A := fun _ => False) (fun _ _ q => q)).go (D := fun _ => False) (Frm.refl _ _ _) (fun _ _ q => q) (fun _ _ q => q) fun g r q => q.go (D := fun _ => False) (Frm.refl _ _ _) (fun _ _ q => q.elim) fun _ _ q => q.elim
    obtain ⟨a1, c1, dsl, q0, _⟩ := gs_read (R := Res) rg (k := 0) (g := g0) rfl
    have q0' := q0
    simp only [List.length_cons, List.length_nil] at q0'
    refine ⟨h', nx' + 9, ?_⟩
    refine (q0' _).trans ?_
    simp only [mst_]
    rw [l1]
    rfl
  | succ d ih =>
    intro m0 j nx e hl
    obtain ⟨m0, rfl⟩ : ∃ m, m0 = m + 1 := ⟨m0 - 1, by omega⟩
    have hv := w.2 j (by omega)
    have hlen := w.1
    rw [F4_L4_eq, if_pos (decide_eq_true (by omega))]
    by_cases c : j < N
    · rw [if_pos ((hg j).2 c)] at hv
      have hv' : (ints .i64 cnt)[0 + j * 1]? = some (.int .i64 1) := by rw [Nat.zero_add, Nat.mul_one]; unfold ints; rw [List.getElem?_map, hv]; rfl
      rw [if_pos (show decide ((j : Int) < (N : Int)) = true from decide_eq_true (by omega))]
      simp only [mst_]
      rw [if_pos (show (0 : Int) ≤ (j : Int) ∧ (j : Int) < ((60 : Nat) : Int) from ⟨by omega, by omega⟩), Int.toNat_natCast, ldA_at hc hv']
      simp only [mst_]
      rw [if_neg (show ¬ ((1 : Int) != 1) = true by decide), if_neg (show ¬ decide ((j : Int) ≥ (N : Int)) = true by rw [decide_eq_true_eq]; omega), wsucc (i := j) (by omega)]
      exact ih m0 (j + 1) _ (by omega) (by omega)
    · rw [if_neg (fun q => c ((hg j).1 q))] at hv
      have hv' : (ints .i64 cnt)[0 + j * 1]? = some (.int .i64 0) := by rw [Nat.zero_add, Nat.mul_one]; unfold ints; rw [List.getElem?_map, hv]; rfl
      rw [if_neg (show ¬ decide ((j : Int) < (N : Int)) = true by rw [decide_eq_true_eq]; omega), if_pos (show decide ((j : Int) ≥ (N : Int)) = true from decide_eq_true (by omega))]
      simp only [mst_]
      rw [if_pos (show (0 : Int) ≤ (j : Int) ∧ (j : Int) < ((60 : Nat) : Int) from ⟨by omega, by omega⟩), Int.toNat_natCast, ldA_at hc hv']
      simp only [mst_]
      rw [if_neg (show ¬ ((0 : Int) != 0) = true by decide), wsucc (i := j) (by omega)]
      exact ih m0 (j + 1) _ (by omega) (by omega)

def births (l : List (Int × Int)) : Nat := l.countP fun m => m.1 == 1
theorem births_tail : ∀ (n j : Nat), births (tailP j n) = 0
  | 0, j => by simp [births, tailP]
  | n + 1, j => by
    have := births_tail n (j + 1)
    unfold births at *
    rw [tailP_cons, List.countP_cons_of_neg (by simp), List.countP_cons_of_neg (by simp)]
    exact this
theorem step_births (K : PK) (m : Int × Int) : (stepP K m).1.blocks.length = K.blocks.length + (if bornB m (stepP K m).2.1 = true then 1 else 0) ∧ (bornB m (stepP K m).2.1 = true → m.1 = 1) := by
  refine ⟨?_, fun h => ?_⟩
  · have hway := step_ways K m
    generalize stepP K m = SS at *
    cases hway with
    | no e he => rw [if_neg (by simp [bornB, he])]; simp [tickP]
    | born hm => rw [if_pos (by simp [bornB, hm])]; simp
    | keep hm => rw [if_neg (by simp [bornB, hm])]; simp [tickP]
    | kill hm b hb at_ hk hl => rw [if_neg (by simp [bornB, hm])]; simp
    | bury hm b hb at_ hk s hs hl => rw [if_neg (by simp [bornB, hm])]; simp
    | drop hm i s hi hs => rw [if_neg (by simp [bornB, hm])]; simp [tickP]
  · unfold bornB at h
    rw [Bool.and_eq_true, beq_iff_eq] at h
    exact h.1
theorem nodup_len : ∀ {n : Nat} {l : List Int}, l.Nodup → (∀ b ∈ l, 0 ≤ b ∧ b < n) → l.length ≤ n
  | 0, l, _, hb => by
    cases l with
    | nil => exact Nat.le_refl _
    | cons b l => have := hb b List.mem_cons_self; omega
  | n + 1, l, nd, hb => by
    have ih := nodup_len (n := n) (l := l.erase (n : Int)) (nd.erase _) fun b h => by
      obtain ⟨h1, h2⟩ := nd.mem_erase_iff.1 h
      have := hb b h2; omega
    by_cases c : (n : Int) ∈ l
    · rw [List.length_erase_of_mem c] at ih; omega
    · rw [List.erase_of_not_mem c] at ih; omega

theorem all_loop {f lf : Nat} (hf : 1700 ≤ f) (hlf : 1100 ≤ lf) {h0 : AHeap} {n0 cb : Nat} {ma ga : Option (Nat × Nat)} {mc gc : Option Nat} {ms0 : List (Int × Int)} {ms : List (Int × Int)} {gs : List (Int × List Int)} (h60 : ms0.length ≤ 60) (hms : ms = ms0 ++ tailP 0 60) (hcb : n0 ≤ cb) (hgl : gs.length = ms.length)
    (sm : Sl h0 n0 ma ms.length 2 (ms.map mrow).flatten) (sg : Rows (fun g r => Gon h0 n0 (fun _ => False) r g) h0 n0 (fun _ => False) ga 2 gs) (d : Nat) :
    ∀ (m0 k : Nat) (h : AHeap) (nx : Nat) (K : PK) (goneL : List Bool) (cnt : List Int), k + d = ms.length → d < m0 → K.now = k → gs.drop k = playP K (ms.drop k) → finalP K (ms.drop k) = finalP pk0 ms → SX K goneL → K.blocks.length + births (ms.drop k) ≤ 60 → Ext h0 n0 h nx → cb < nx → h cb = some ⟨ints .i64 cnt, 1, true⟩ → CI cnt goneL →
      ∃ h' nx', F4_L2 (callP Try.prog keepT f) Y0 lf m0 ma ms.length mc ga gs.length gc (K.blocks.length : Int) (some (cb, 0)) 60 (some 60) (k : Int) h nx = some (.bool true, h', nx') := by
  have hN : ms.length ≤ 180 := by rw [hms, List.length_append, tailP_len]; omega
  induction d with
  | zero =>
    intro m0 k h nx K goneL cnt e hl hnow hG hF w hB x hcn hc ci
    obtain ⟨m0, rfl⟩ : ∃ m, m0 = m + 1 := ⟨m0 - 1, by omega⟩
    rw [F4_L2_eq, if_neg (by rw [decide_eq_true_eq]; omega)]
    have hd : ms.drop k = [] := List.drop_of_length_le (by omega)
    rw [hd] at hF
    have hF : K = finalP pk0 ms := hF
    have hgone := end_gone h60 (by rw [hF, hms]) w
    have hlen := w.len
    exact all_l4 hf (by omega) ci (fun b => ⟨fun q => by have := (List.getElem?_eq_some_iff.1 q).1; omega, hgone b⟩) rfl hc 60 lf 0 _ (by omega) (by omega)
  | succ d ih =>
    intro m0 k h nx K goneL cnt e hl hnow hG hF w hB x hcn hc ci
    obtain ⟨m0, rfl⟩ : ∃ m, m0 = m + 1 := ⟨m0 - 1, by omega⟩
    have hk : k < ms.length := by omega
    have hm : ms[k]? = some ms[k] := List.getElem?_eq_getElem hk
    rw [List.drop_eq_getElem_cons hk] at hG hF hB
    rw [playP] at hG
    have hg : gs[k]? = some (stepP K ms[k]).2 := by
      have := congrArg (fun l => l[0]?) hG
      simp only [List.getElem?_drop, Nat.add_zero, List.getElem?_cons_zero] at this
      exact this
    have hG' : gs.drop (k + 1) = playP (stepP K ms[k]).1 (ms.drop (k + 1)) := by
      have := congrArg (List.drop 1) hG
      simpa [List.drop_drop] using this
    have hF' : finalP (stepP K ms[k]).1 (ms.drop (k + 1)) = finalP pk0 ms := hF
    obtain ⟨m0', m1⟩ := ms_read (R := Res) (sm.ext x) hm
    obtain ⟨da, dc, dsl, g0, g1⟩ := gs_read (R := Res) (gs_go (A' := fun _ => False) sg x fun _ _ q => q) hg
    have hnow' : (stepP K ms[k]).1.now = ((k + 1 : Nat) : Int) := by rw [step_now, hnow]; omega
    obtain ⟨nd, ok, w'⟩ := w.step (by omega) ms[k]
    obtain ⟨sb, sb1⟩ := step_births K ms[k]
    have hB' : (stepP K ms[k]).1.blocks.length + births (ms.drop (k + 1)) ≤ 60 := by
      unfold births at hB ⊢
      by_cases c : bornB ms[k] (stepP K ms[k]).2.1 = true
      · rw [List.countP_cons_of_pos (by rw [beq_iff_eq]; exact sb1 c)] at hB
        rw [if_pos c] at sb; omega
      · rw [if_neg c] at sb
        rw [List.countP_cons] at hB
        omega
    have hlen := w'.len
    rw [marks_len] at hlen
    have hbs : (stepP K ms[k]).2.2.length ≤ 60 := nodup_len nd fun b hb => ⟨(ok b hb).1, by
      have := (List.getElem?_eq_some_iff.1 (ok b hb).2).1; omega⟩
    have ci' : CI cnt (goneAt goneL ms[k] (stepP K ms[k]).2.1) := by
      unfold goneAt; split
      · exact ci.birth
      · exact ci
    have go : ∀ (N : Nat), nx ≤ N → ∃ h' nx', F4_J3 (callP Try.prog keepT f) Y0 lf m0 ma ms.length mc ga gs.length gc ((stepP K ms[k]).1.blocks.length : Int) (some (cb, 0)) 60 (some 60) (k : Int) h N = some (.bool true, h', nx') := fun N hN' => by
      rw [F4_J3_eq]
      refine all_l5 (P := fun r => ∃ h' nx', r = some (.bool true, h', nx')) (f := f) (code := (stepP K ms[k]).2.1) (bs := (stepP K ms[k]).2.2) hlf hcb sg hg (by omega) (by omega) (goneL := goneAt goneL ms[k] (stepP K ms[k]).2.1) (by omega) nd ok (fun h' nx' cnt' x' hcn' hc' ci'' => ?_) (stepP K ms[k]).2.2.length lf 0 h (N + 1) cnt (by omega) (by omega) (x.le (by omega)) (by omega) hc ci'
      exact ih m0 (k + 1) h' nx' _ _ cnt' (by omega) (by omega) hnow' hG' hF' w' hB' x' hcn' hc' ci''
    generalize ms[k] = m at *
    generalize stepP K m = SS at *
    rw [F4_L2_eq, if_pos (decide_eq_true (by omega)), m0']
    simp only [mst_]
    by_cases c1 : m.1 = 1
    · rw [if_pos (show (m.1 == 1) = true by rw [c1]; rfl), g0]
      simp only [mst_]
      by_cases c2 : SS.2.1 = 0
      · rw [if_pos (show (SS.2.1 == 0) = true by rw [c2]; rfl), wsucc (i := K.blocks.length) (by omega)]
        rw [if_pos (show bornB m SS.2.1 = true by simp [bornB, c1, c2])] at sb
        rw [← sb]
        exact go _ (by omega)
      · rw [if_neg (show ¬ (SS.2.1 == 0) = true by simpa using c2)]
        rw [if_neg (show ¬ bornB m SS.2.1 = true by simp [bornB, c2]), Nat.add_zero] at sb
        rw [← sb]
        exact go _ (by omega)
    · rw [if_neg (show ¬ (m.1 == 1) = true by simpa using c1)]
      rw [if_neg (show ¬ bornB m SS.2.1 = true by simp [bornB, c1]), Nat.add_zero] at sb
      rw [← sb]
      exact go _ (by omega)

theorem SnapAll_run (h : AHeap) (nx : Nat) (a : Option (Nat × Nat)) (c : List (List AV)) (_ : c.length * 16 ≤ 140737488351232) (each : ∀ v ∈ c, Ty h nx (.st [.int .i64, .int .i64]) v) (sl : Sl h nx a c.length (Sh.st [.int .i64, .int .i64]).n c.flatten) :
    ∃ f h' nx', callP Try.prog keepT f Y0 4 [.slice a c.length none] h nx = some (.bool true, h', nx') := by
  obtain ⟨ts, rfl⟩ := turns_of c each
  rw [List.length_map] at sl ⊢
  refine ⟨3001, ?_⟩
  rw [F4_eq]
  obtain ⟨oa, oc, h1, n1, r1, r2, r3, r4⟩ := moves_spec (f := 3000) (by omega) none (ts := ts) (n := 60) (nx := nx + 4) (by omega) (sl.ext ⟨by omega, fun _ _ => rfl⟩)
  rw [show ((60 : Nat) : Int) = 60 from rfl] at r1
  rw [r1]
  simp only [mst_]
  have hml : (movesP ts 60).length ≤ 60 := by unfold movesP; rw [List.length_map, List.length_take]; omega
  obtain ⟨ms0, hms0⟩ : ∃ m, m = movesP ts 60 := ⟨_, rfl⟩
  rw [← hms0] at r1 r2 hml ⊢
  have own := (r2.own (n0 := nx + 4) r4).le (show n1 ≤ n1 + 1 by omega)
  have hx3 := r3.1
  have e0 : ms0 ++ tailP 0 0 = ms0 := by simp [tailP]
  rw [← e0] at own
  conv =>
    enter [1, h', 1, nx', 1]
    rw [← e0]
  refine all_l1 (f := 3000) (lf := 3000) (n0 := nx + 4) (P := fun r => ∃ h' nx', r = some (.bool true, h', nx')) hml (h0 := h1) (fun m0 h2 n2 a2 c2 hn2 s2 x2 => ?_) 60 3000 0 h1 (n1 + 1) oa oc (by omega) (by omega) (by omega) own ⟨by omega, fun _ _ => rfl⟩
  obtain ⟨ms, hms⟩ : ∃ m, m = ms0 ++ tailP 0 60 := ⟨_, rfl⟩
  rw [← hms] at s2 ⊢
  have hN : ms.length ≤ 180 := by rw [hms, List.length_append, tailP_len]; omega
  rw [F4_L1_eq, if_neg (by decide)]
  obtain ⟨ga, gc, h3, n3, p1, p2, p3, p4⟩ := snapped_spec (f := 3000) (by omega) c2 (ms := ms) (nx := n2 + 9) (by omega) (s2.sl.ext ⟨by omega, fun _ _ => rfl⟩)
  rw [p1]
  simp only [mst_]
  rw [if_pos (by decide)]
  have hgl := playP_len ms pk0
  rw [← hgl]
  have sg : Rows (fun g r => Gon h3 (n3 + 3) (fun _ => False) r g) h3 (n3 + 3) (fun _ => False) ga 2 (playP pk0 ms) :=
    (p2.rows (A := fun _ => False) (fun _ _ q => q)).go (D := fun _ => False) ((Frm.refl _ _ _).le (by omega)) (fun _ _ q => q) (fun _ _ q => q) fun g r q => q.go (D := fun _ => False) ((Frm.refl _ _ _).le (by omega)) (fun _ _ q => q.elim) fun _ _ q => q.elim
  have hp3 := p3.1
  have sm2 : Sl h3 (n3 + 3) a2 ms.length 2 (ms.map mrow).flatten := s2.sl.ext ⟨by omega, fun i hi => p3.2 i (by omega)⟩
  have hz : madeA [.int .i64 0] (Int.toNat 60 * 1) = ints .i64 (List.replicate 60 0) := rfl
  rw [hz]
  have w0 : SX pk0 [] := ⟨[], [], [], pk0_si, fun l hl => by cases hl⟩
  have fin := all_loop (f := 3000) (lf := 3000) (by omega) (by omega) (n0 := n3 + 3) (cb := n3 + 3) (mc := c2) (gc := gc) hml hms (by omega) hgl sm2 sg ms.length 3000 0 (h3.put (n3 + 3) (some ⟨ints .i64 (List.replicate 60 0), 1, true⟩)) (n3 + 6) pk0 [] (List.replicate 60 0) (by omega) (by omega) rfl rfl rfl w0
    (by
      show 0 + births ms ≤ 60
      have h1 : births ms = births ms0 + births (tailP 0 60) := by rw [hms]; exact List.countP_append
      have h2 : births ms0 ≤ ms0.length := List.countP_le_length
      rw [h1, births_tail]; omega)
    ⟨by omega, fun j hj => put_ne (by omega)⟩ (by omega) (put_same _ _ _) ⟨by rw [List.length_replicate], fun b hb => by rw [List.getElem?_replicate, if_pos hb]; rfl⟩
  rw [hgl] at fin ⊢
  exact fin

end Go.Proofs.Ytaikceooeahfeaa.T
