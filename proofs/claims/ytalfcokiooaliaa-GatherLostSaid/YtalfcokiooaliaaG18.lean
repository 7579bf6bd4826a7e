import Derived.Test.YtalfcokiooaliaaG17
set_option linter.unusedVariables false
set_option linter.unusedSimpArgs false
namespace Go.Proofs.Ytalfcokiooaliaa.T
open Go Go.RowKit Go.Proofs


/-! ### stripe.Gather: one try -/
/-- An append to a block of one's own, the new block anywhere. -/
theorem app_any {h : AHeap} {b id n k bytes : Nat} {vs ws : List AV} {c : Bool} {rd : List Nat} (hb : h b = some ⟨vs, 1, true⟩) (hl : vs.length = n) (hw : ws.length = k) (hg : growOk (n + k) bytes = true) (hne : id ≠ b) :
    ∃ e, appD h (some (b, 0)) n c 1 bytes id (k, ws, rd) = some e ∧ e.n = n + k ∧ (∃ o, e.a = some (o, 0) ∧ (o = b ∨ o = id) ∧ (h.puts e.sets) o = some ⟨vs ++ ws, 1, true⟩) ∧ (∀ j, j ≠ b → j ≠ id → (h.puts e.sets) j = h j) ∧ ∀ j ∈ idsOf e.sets, j = b ∨ j = id := by
  unfold appD
  by_cases hk : k = 0
  · subst hk
    have : ws = [] := List.length_eq_zero_iff.1 hw
    subst this
    refine ⟨⟨some (b, 0), n, c, [], rd⟩, by simp, rfl, ⟨b, rfl, .inl rfl, by simpa using hb⟩, fun j _ _ => rfl, fun j hj => by cases hj⟩
  · rw [if_neg hk, if_pos hg]
    simp only [hb, Option.bind_some]
    rw [if_pos (by simp [hl])]
    have ht : (vs.drop 0).take (n * 1) = vs := by rw [List.drop_zero, Nat.mul_one, List.take_of_length_le (by omega)]
    rw [ht]
    cases c with
    | true =>
      refine ⟨_, by rw [if_pos rfl], rfl, ⟨id, rfl, .inr rfl, by simp⟩, fun j h1 h2 => by simp [put_ne h2], fun j hj => by simp [idsOf] at hj; exact .inr hj⟩
    | false =>
      refine ⟨⟨some (id, 0), n + k, false, [(b, none), (id, some ⟨vs ++ ws, 1, true⟩)], b :: rd⟩, by simp, rfl, ⟨id, rfl, .inr rfl, by simp⟩, fun j h1 h2 => by simp [put_ne h1, put_ne h2], fun j hj => by simp [idsOf] at hj; exact hj⟩

/-- A copy of numbers, to which others are appended. -/
theorem clone_app {f : Nat} (hf : 1 ≤ f) {L q : List Nat} {la ya : Option (Nat × Nat)} {n m : Nat} (hL : L.length = n) (hq : q.length = m) (hn : n ≤ 1000) (hm : m ≤ 1000) (lc : Bool) {h : AHeap} {nx i6 : Nat} (ol : OwnRows NRow h nx la 1 L) (sy : Sl h nx ya m 1 (ints .i64 (nints q))) (h6 : nx ≤ i6) (h9 : i6 < nx + 9) :
    ∃ (ca : Option (Nat × Nat)) (cc : Bool) (h1 : AHeap) (n1 : Nat) (q27 : Nat × List AV × List Nat) (e : AE), callP Try.prog keepT f Y0 21 [.slice la n lc] h (nx + 9) = some (.slice ca n cc, h1, n1) ∧ Ext h (nx + 9) h1 n1 ∧ srcS h1 ya m 1 = some q27 ∧ appD h1 ca n cc 1 8 i6 q27 = some e ∧ e.n = n + m ∧ Sl (h1.puts e.sets) n1 e.a (n + m) 1 (ints .i64 (nints (L ++ q))) ∧ (∀ j, j < nx → (h1.puts e.sets) j = h j) ∧ (∀ j ∈ idsOf e.sets, nx ≤ j) := by
  by_cases h0 : n = 0
  · subst h0
    have hL0 : L = [] := List.length_eq_zero_iff.1 hL
    subst hL0
    obtain ⟨f, rfl⟩ : ∃ m, f = m + 1 := ⟨f - 1, by omega⟩
    cases la with
    | none =>
      obtain ⟨rd, c2⟩ := (sy.ext (h' := h) (nx' := nx + 13) ⟨by omega, fun j hj => rfl⟩).src'
      obtain ⟨e, f1, f2, f3, f4⟩ := copyOf (h := h) (nx := nx) (n := m) (es := 1) (bytes := 8) (id := i6) (vs := ints .i64 (nints q)) (rd := rd) (by simp [nints_len, hq]) (growOk_of (by omega) (by omega)) h6
      have ids : ∀ j ∈ idsOf e.sets, nx ≤ j := fun j hj => (OwnSl.nil h nx nx 1).append_ids (by omega) f1 j hj
      refine ⟨none, false, h, nx + 9 + 4, _, e, by rw [F21_eq, if_pos (by simp)], ⟨by omega, fun _ _ => rfl⟩, c2, f1, by rw [f2]; omega, ?_, f4.2, ids⟩
      rw [Nat.zero_add, List.nil_append]
      exact (f3.le (by omega)).sl
    | some b =>
      have e36 : callP Try.prog keepT (f + 1) Y0 21 [.slice (some b) 0 lc] h (nx + 9) = some (.slice (some (nx + 9 + 3, 0)) 0 true, h.put (nx + 9 + 3) (some ⟨[], 1, true⟩), nx + 9 + 7) := by
        rw [F21_eq, if_neg (by simp)]
        have : srcS (h.put (nx + 9 + 3) (some ⟨[], 1, true⟩)) (some b) 0 1 = some (0, [], []) := by simp [srcS]
        dsimp only
        rw [this, some_bind]
        simp [appD]
      have x1 : Ext h (nx + 9) (h.put (nx + 9 + 3) (some ⟨[], 1, true⟩)) (nx + 9 + 7) := ⟨by omega, fun j hj => put_ne (by omega)⟩
      obtain ⟨rd, c2⟩ := (sy.ext (h' := h.put (nx + 9 + 3) (some ⟨[], 1, true⟩)) (nx' := nx + 9 + 7) ⟨by omega, fun j hj => x1.2 j (by omega)⟩).src'
      obtain ⟨e, f1, f2, ⟨o, f3, f4, f5⟩, f6, f7⟩ := app_any (b := nx + 9 + 3) (id := i6) (n := 0) (k := m) (ws := ints .i64 (nints q)) (bytes := 8) (c := true) (rd := rd) (put_same h (nx + 9 + 3) (some ⟨[], 1, true⟩)) (by simp) (by simp [nints_len, hq]) (growOk_of (by omega) (by omega)) (by omega)
      refine ⟨some (nx + 9 + 3, 0), true, _, nx + 9 + 7, _, e, e36, x1, c2, f1, by rw [f2], ?_, fun j hj => ?_, fun j hj => ?_⟩
      · rw [f3]
        exact Sl.ofBlk (own := true) (vs := ints .i64 (nints ([] ++ q))) (by simpa using f5) (by simp [nints_len, hq]) (by rcases f4 with z | z <;> omega)
      · rw [f6 j (by omega) (by omega), x1.2 j (by omega)]
      · rcases f7 j hj with z | z <;> omega
  · obtain ⟨id, cc, h1, n1, e1, i0, i1, ib, x1⟩ := clone_spec (f := f) hf hL (by omega) (by omega) lc ((NRow.sl ol hL).ext (nx' := nx + 9) ⟨by omega, fun _ _ => rfl⟩)
    have y1 := x1.1
    obtain ⟨rd, c2⟩ := (sy.ext (h' := h1) (nx' := n1) ⟨by omega, fun j hj => x1.2 j (by omega)⟩).src'
    obtain ⟨e, f1, f2, ⟨o, f3, f4, f5⟩, f6, f7⟩ := app_any (b := id) (id := i6) (n := n) (k := m) (ws := ints .i64 (nints q)) (bytes := 8) (c := cc) (rd := rd) ib (by simp [nints_len, hL]) (by simp [nints_len, hq]) (growOk_of (by omega) (by omega)) (by omega)
    refine ⟨some (id, 0), cc, h1, n1, _, e, e1, x1, c2, f1, f2, ?_, fun j hj => ?_, fun j hj => ?_⟩
    · rw [f3]
      exact Sl.ofBlk (own := true) (vs := ints .i64 (nints (L ++ q))) (by rw [f5]; simp [ints, nints]) (by simp [nints_len, hL, hq]) (by rcases f4 with z | z <;> omega)
    · rw [f6 j (by omega) (by omega), x1.2 j (by omega)]
    · rcases f7 j hj with z | z <;> omega

theorem pick_loop (call : YldF → CallF) (lf L0 rec : Nat) (X9 X10 X11 X12 X13 X14 X15 X17 : Option (Nat × Nat)) {kv kl yid : Nat} {ka : Option (Nat × Nat)} {KL q : List Nat} (hKL : KL.length = kl) (hkl : kl ≤ 100) (hq : ∀ x ∈ q, x < kl) (kc yc : Bool) {ql : Nat} (hql : q.length = ql) (hq1 : ql ≤ 100) {h0 : AHeap} {n0 : Nat} (hkv : h0 kv = some ⟨[.slice ka kl kc], 1, true⟩) (hkvl : kv < n0) (hne : kv ≠ yid) (sk : Sl h0 n0 ka kl 1 (ints .i64 (nints KL))) (hav : ∀ p, ka = some p → p.1 ≠ yid) (hyl : yid < n0) (m : Nat) :
    ∀ (f i : Nat) (h : AHeap) (nx : Nat), i + m = ql → m < f → Frm (fun j => j = yid) h0 n0 h nx → h yid = some ⟨ints .i64 (nints ((q.map fun x => KL.getD x 0).take i ++ q.drop i)), 1, true⟩ →
    ∃ (f' : Nat) (h' : AHeap) (nx' : Nat), F12_L5 call Y0 lf L0 rec f X9 X10 X11 X12 X13 X14 X15 X17 (some (kv, 0)) (some (yid, 0)) ql yc (some (yid, 0)) ql yc ((ql : Nat) : Int) (i : Int) h nx = F12_L5 call Y0 lf L0 rec (f' + 1) X9 X10 X11 X12 X13 X14 X15 X17 (some (kv, 0)) (some (yid, 0)) ql yc (some (yid, 0)) ql yc ((ql : Nat) : Int) (ql : Int) h' nx' ∧ Frm (fun j => j = yid) h0 n0 h' nx' ∧ h' yid = some ⟨ints .i64 (nints (q.map fun x => KL.getD x 0)), 1, true⟩ := by
  induction m with
  | zero =>
    intro f i h nx e hf x hb
    obtain ⟨f, rfl⟩ : ∃ m, f = m + 1 := ⟨f - 1, by omega⟩
    obtain rfl : i = ql := by omega
    rw [List.take_of_length_le (by rw [List.length_map]; omega), List.drop_of_length_le (by omega), List.append_nil] at hb
    exact ⟨f, h, nx, rfl, x, hb⟩
  | succ m ih =>
    intro f i h nx e hf x hb
    obtain ⟨f, rfl⟩ : ∃ m, f = m + 1 := ⟨f - 1, by omega⟩
    have hi : i < ql := by omega
    have y := x.1
    obtain ⟨k, hk⟩ : ∃ k, q[i]'(by omega) = k := ⟨_, rfl⟩
    have hkl' : k < kl := hq k (by rw [← hk]; exact List.getElem_mem _)
    have hml : (q.map fun x => KL.getD x 0).length = q.length := List.length_map _
    have hkvh : h kv = some ⟨[.slice ka kl kc], 1, true⟩ := (x.2 kv hkvl hne).trans hkv
    have sk' : Sl h nx ka kl 1 (ints .i64 (nints KL)) := sk.fr (D := fun j => j = yid) (fun _ p hp z => hav p hp z) x
    have hg : ((q.map fun x => KL.getD x 0).take i ++ q.drop i)[i]? = some k := by
      rw [fold_get (m := q.map fun x => KL.getD x 0) (d := q) (by omega) hml, hk]
    rw [F12_L5_eq, if_pos (by simpa using hi)]
    simp only [mst_]
    rw [if_pos ⟨by omega, by omega⟩, show 0 + Int.toNat (i : Int) * 1 = i from by omega, ld_at hb (nints_at hg)]
    simp only [mst_]
    rw [ld_at hkvh rfl]
    simp only [mst_]
    rw [sk'.readN hKL (by omega)]
    simp only [mst_]
    have st := st_to (h := h) (R := AV × AHeap × Nat) hb (v := .int .i64 ((KL[k]'(by omega) : Nat) : Int)) rfl (o := i) (by rw [nintsL, List.length_append, List.length_take, List.length_drop]; omega)
      (cs' := ints .i64 (nints ((q.map fun x => KL.getD x 0).take (i + 1) ++ q.drop (i + 1)))) (by
        rw [nints_set]
        have e1 : KL[k]'(by omega) = (q.map fun x => KL.getD x 0)[i]'(by omega) := by
          rw [List.getElem_map, hk, getD_at (by omega)]
        rw [e1, fold_set (m := q.map fun x => KL.getD x 0) (d := q) (by omega) hml])
    rw [if_pos ⟨by omega, by omega⟩, st, wsucc (by omega)]
    exact ih f (i + 1) _ (nx + 16) (by omega) (by omega) (x.put (.inl rfl) (by omega)) (put_same _ _ _)

end Go.Proofs.Ytalfcokiooaliaa.T
