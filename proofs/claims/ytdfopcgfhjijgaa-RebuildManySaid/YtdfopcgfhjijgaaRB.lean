import Derived.Test.YtdfopcgfhjijgaaRA
set_option linter.unusedVariables false
set_option linter.unusedSimpArgs false
namespace Go.Proofs.Ytdfopcgfhjijgaa.T
open Go Go.RowKit Go.Proofs

/-! ### par.fill: the matrix and what is wanted -/
theorem OwnRows.lt {α : Type} {Q : α → List AV → Prop} {h : AHeap} {nx es : Nat} {a : Option (Nat × Nat)} {l : List α} (o : OwnRows Q h nx a es l) : ∀ i, ownOf a i → i < nx := by
  obtain ⟨_, _, _, s⟩ := o
  intro i ⟨z, hz⟩
  rcases s with ⟨e, _⟩ | ⟨b, e, hb, _⟩
  · rw [e] at hz; cases hz
  · rw [e] at hz
    have := congrArg Prod.fst (Option.some.inj hz)
    simp only at this; omega

def avF (n0 : Nat) (ma wa : Option (Nat × Nat)) : Nat → Prop := fun i => i < n0 ∨ ownOf ma i ∨ ownOf wa i
def rowL (us hs : List Nat) (b a : Nat) : List Nat := (List.range a).map fun i => facF us hs b i
theorem rowL_succ (us hs : List Nat) (b a : Nat) : rowL us hs b (a + 1) = rowL us hs b a ++ [facF us hs b a] := by simp [rowL, List.range_succ]
theorem rowL_len (us hs : List Nat) (b a : Nat) : (rowL us hs b a).length = a := by simp [rowL]
def msL (us hs : List Nat) (t b : Nat) : List (List Nat) := (List.range b).map fun c => rowL us hs c t
theorem msL_succ (us hs : List Nat) (t b : Nat) : msL us hs t (b + 1) = msL us hs t b ++ [rowL us hs b t] := by simp [msL, List.range_succ]
theorem msL_len (us hs : List Nat) (t b : Nat) : (msL us hs t b).length = b := by simp [msL]
def wsL (g : Nat → Bool) (M : List (List Nat)) (w : Nat) (us : List Nat) (b : Nat) : List (List Nat) := (List.range b).map fun c => want g M w (us.getD c 0)
theorem wsL_succ (g : Nat → Bool) (M : List (List Nat)) (w : Nat) (us : List Nat) (b : Nat) : wsL g M w us (b + 1) = wsL g M w us b ++ [want g M w (us.getD b 0)] := by simp [wsL, List.range_succ]
theorem wsL_len (g : Nat → Bool) (M : List (List Nat)) (w : Nat) (us : List Nat) (b : Nat) : (wsL g M w us b).length = b := by simp [wsL]
theorem facF_eq (us hs : List Nat) (b a : Nat) : facF us hs b a = fac (us.getD b 0) (hs.getD a 0) := rfl

theorem frow_loop {k0 : Nat} (hk0 : 40 ≤ k0) (lf n0 : Nat) {us hs : List Nat} {t b j : Nat} (hh : hs.length = t) (ht : t ≤ 16) (h12 : ∀ i ∈ hs, i ≤ 256) (hj : us.getD b 0 = j) (hj16 : j ≤ 16) (X0 X8 X10 X24 : Option (Nat × Nat)) (N0 N8 N10 N24 : Nat) (C0 C8 C10 C24 : Bool) (x1 x25 x26 : Int) {ha : Option (Nat × Nat)} (hc : Bool) {h00 : AHeap} {n00 : Nat} (sh : Sl h00 n00 ha t 1 (ints .i64 (nints hs))) {hO : AHeap} {nO : Nat} (xO : Ext h00 n00 hO nO) (m : Nat) :
    ∀ (f a : Nat) (ra : Option (Nat × Nat)) (rc : Bool) (h : AHeap) (nx : Nat), a + m = t → m < f → Ext hO nO h nx → OwnSl h nO nx ra a 1 (ints .i64 (nints (rowL us hs b a))) →
    ∃ (f' : Nat) (ra' : Option (Nat × Nat)) (rc' : Bool) (h' : AHeap) (nx' : Nat), F69_L2 (callP Try.prog keepT k0) Y0 lf n0 f X0 N0 C0 x1 ha t hc X8 N8 C8 X10 N10 C10 (j : Int) ra a rc X24 N24 C24 x25 x26 ha t hc ((t : Nat) : Int) (a : Int) h nx =
        F69_L2 (callP Try.prog keepT k0) Y0 lf n0 (f' + 1) X0 N0 C0 x1 ha t hc X8 N8 C8 X10 N10 C10 (j : Int) ra' t rc' X24 N24 C24 x25 x26 ha t hc ((t : Nat) : Int) (t : Int) h' nx' ∧ Ext hO nO h' nx' ∧ OwnSl h' nO nx' ra' t 1 (ints .i64 (nints (rowL us hs b t))) := by
  induction m with
  | zero =>
    intro f a ra rc h nx e hf x o
    obtain ⟨f, rfl⟩ : ∃ m, f = m + 1 := ⟨f - 1, by omega⟩
    obtain rfl : a = t := by omega
    exact ⟨f, ra, rc, h, nx, rfl, x, o⟩
  | succ m ih =>
    intro f a ra rc h nx e hf x o
    obtain ⟨f, rfl⟩ : ∃ m, f = m + 1 := ⟨f - 1, by omega⟩
    have hi : a < t := by omega
    have y := x.1
    have hhi : hs[a]'(by omega) ≤ 256 := h12 _ (List.getElem_mem _)
    obtain ⟨h1, n1, e1, x1⟩ := fac_spec (f := k0) hk0 j (hs[a]'(by omega)) hj16 hhi h (nx + 11)
    have y1 := x1.1
    have o1 : OwnSl h1 nO nx ra a 1 (ints .i64 (nints (rowL us hs b a))) := o.ext ⟨Nat.le_refl _, fun i hi => x1.2 i (by omega)⟩
    obtain ⟨e, f1, f2, f3, f4⟩ := o1.push (c := rc) (bytes := 8) (id := nx + 8) (id2 := nx + 9) (ws := [.int .i64 ((fac j (hs[a]'(by omega)) : Nat) : Int)]) rfl (growOk_of (by omega) (by omega)) (by omega) (by omega) (by omega)
    rw [F69_L2_eq, if_pos (by simpa using hi), ((sh.ext (xO.trans x))).readN hh (by omega)]
    simp only [bind_some', asI_int, asB_bool, asStr_str, asP_ptr, asSl_sl, asAgg_1, asAgg_2, asAgg_3, asAgg_4, asTup_0, asTup_2, asTup_3, asTup_4, if_true', if_false', if_not_true', if_not_false', getD_0, getD_1, getD_2, getD_3]
    rw [e1]
    simp only [bind_some', asI_int, asB_bool, asStr_str, asP_ptr, asSl_sl, asAgg_1, asAgg_2, asAgg_3, asAgg_4, asTup_0, asTup_2, asTup_3, asTup_4, if_true', if_false', if_not_true', if_not_false', getD_0, getD_1, getD_2, getD_3]
    rw [src_lit1, some_bind, f1, some_bind, f2, wsucc (by omega)]
    refine ih f (a + 1) e.a e.c _ (n1 + 2) (by omega) (by omega) ⟨by omega, fun i hi => ?_⟩ ?_
    · rw [f4.2 i hi, x1.2 i (by omega), x.2 i hi]
    · have : ints .i64 (nints (rowL us hs b (a + 1))) = ints .i64 (nints (rowL us hs b a)) ++ [.int .i64 ((fac j (hs[a]'(by omega)) : Nat) : Int)] := by
        rw [rowL_succ, facF_eq, hj, getD_at (show a < hs.length by omega)]; simp [ints, nints]
      rw [this]
      exact f3.le (by omega)

theorem fill_first {k0 : Nat} (hk0 : 5010 ≤ k0) (lf : Nat) (hlf : 100 ≤ lf) {g : Nat → Bool} {M : List (List Nat)} {w n t N : Nat} (hn : M.length = n) (hn1 : 1 ≤ n) (hn12 : n ≤ 12) (hN : N ≤ 256) (hM : ∀ r ∈ M, r.length = w) (sM : SmallM M) (hw : w ≤ 4096)
    {us hs : List Nat} (hu : us.length = t) (hh : hs.length = t) (ht1 : 1 ≤ t) (ht : t ≤ 16) (h12 : ∀ i ∈ hs, i ≤ 256) (u16 : ∀ u ∈ us, u ≤ 16) (uN : ∀ u ∈ us, n + u < N)
    {ha ua : Option (Nat × Nat)} (hc uc oc : Bool) {h0 : AHeap} {n0 lo ob : Nat} {ok : Nat → Bool} {q : Nat → Rw} {D : Nat → List Nat} {X : Nat → Prop} (B : Bld h0 lo n0 ob w N ok q D X) (ok1 : ∀ k, k < n → ok k = true) (ok2 : ∀ u ∈ us, ok (n + u) = true)
    (D1 : ∀ k, k < n → D k = if g k then List.replicate w 0 else M.getD k []) (D2 : ∀ u ∈ us, D (n + u) = enc M u w) (sh : Sl h0 n0 ha t 1 (ints .i64 (nints hs))) (su : Sl h0 n0 ua t 1 (ints .i64 (nints us))) (m : Nat) :
    ∀ (f b : Nat) (ma wa : Option (Nat × Nat)) (mc wc : Bool) (h : AHeap) (nx : Nat), b + m = t → m < f → Ext h0 n0 h nx → OwnRows (BlkRow .i64 h nx (avF n0 ma wa) t) h nx ma 1 (msL us hs t b) → OwnRows (BlkRow .u8 h nx (avF n0 ma wa) w) h nx wa 1 (wsL g M w us b) →
      (∀ i, ownOf ma i → n0 ≤ i) → (∀ i, ownOf wa i → n0 ≤ i) → (∀ i, ownOf ma i → ¬ ownOf wa i) →
    ∃ (f' : Nat) (ma' wa' : Option (Nat × Nat)) (mc' wc' : Bool) (h' : AHeap) (nx' : Nat), F69_L1 (callP Try.prog keepT k0) Y0 lf f (some (ob, 0)) N oc (n : Int) ha t hc ma b mc wa b wc ua t uc ((t : Nat) : Int) (b : Int) h nx =
        F69_L1 (callP Try.prog keepT k0) Y0 lf (f' + 1) (some (ob, 0)) N oc (n : Int) ha t hc ma' t mc' wa' t wc' ua t uc ((t : Nat) : Int) (t : Int) h' nx' ∧ Ext h0 n0 h' nx' ∧ OwnRows (BlkRow .i64 h' nx' (avF n0 ma' wa') t) h' nx' ma' 1 (msL us hs t t) ∧ OwnRows (BlkRow .u8 h' nx' (avF n0 ma' wa') w) h' nx' wa' 1 (wsL g M w us t) ∧ (∀ i, ownOf wa' i → n0 ≤ i) := by
  induction m with
  | zero =>
    intro f b ma wa mc wc h nx e hf x om ow lm lw dj
    obtain ⟨f, rfl⟩ : ∃ m, f = m + 1 := ⟨f - 1, by omega⟩
    obtain rfl : b = t := by omega
    exact ⟨f, ma, wa, mc, wc, h, nx, rfl, x, om, ow, lw⟩
  | succ m ih =>
    intro f b ma wa mc wc h nx e hf x om ow lm lw dj
    obtain ⟨f, rfl⟩ : ∃ m, f = m + 1 := ⟨f - 1, by omega⟩
    have hi : b < t := by omega
    have y := x.1
    obtain ⟨j, hj⟩ : ∃ j, us.getD b 0 = j := ⟨_, rfl⟩
    have hju : us[b]'(by omega) = j := by rw [← hj, getD_at (by omega)]
    have jm : j ∈ us := by rw [← hju]; exact List.getElem_mem _
    have hj16 := u16 j jm
    have hjN := uN j jm
    -- the row
    obtain ⟨f', ra, rc, h1, n1, e1, x1, o1⟩ := frow_loop (k0 := k0) (by omega) lf f (us := us) (b := b) (j := j) hh ht h12 hj hj16 (some (ob, 0)) ma wa ua N b b t oc mc wc uc (n : Int) (t : Int) (b : Int) hc sh (x.le (show nx ≤ nx + 8 by omega)) t lf 0 none false h (nx + 8) (by omega) (by omega) (Ext.refl _ _) (OwnSl.nil _ _ _ _)
    rw [show ((0 : Nat) : Int) = 0 from rfl] at e1
    have y1 := x1.1
    obtain ⟨rid, rfl, r0, r1, rb⟩ : ∃ rid, ra = some (rid, 0) ∧ nx + 8 ≤ rid ∧ rid < n1 ∧ h1 rid = some ⟨ints .i64 (nints (rowL us hs b t)), 1, true⟩ := by
      rcases o1.2 with ⟨_, z⟩ | ⟨i, a1, a2, a3, a4⟩
      · omega
      · exact ⟨i, a1, a2, a3, a4⟩
    have xx1 : Ext h nx h1 n1 := ⟨by omega, fun i hi => x1.2 i (by omega)⟩
    have ltm := om.lt
    have ltw := ow.lt
    -- the row is pushed
    have om1 : OwnRows (BlkRow .i64 h1 n1 (avF n0 ma wa) t) h1 n1 ma 1 (msL us hs t b) := om.go (xx1.fr fun _ => False) (fun _ _ q => q) fun x r b => b.go (xx1.fr fun _ => False) (fun _ _ q => q.elim) (fun _ _ q => q)
    have ow1 : OwnRows (BlkRow .u8 h1 n1 (avF n0 ma wa) w) h1 n1 wa 1 (wsL g M w us b) := ow.go (xx1.fr fun _ => False) (fun _ _ q => q) fun x r b => b.go (xx1.fr fun _ => False) (fun _ _ q => q.elim) (fun _ _ q => q)
    have bml := msL_len us hs t b
    have bwl := wsL_len g M w us b
    obtain ⟨E, s1, s2, s3, s4, s5, s6, s7, s8, _⟩ := om1.pushE (x.trans xx1) lm mc (bytes := 24) (id := n1 + 3) (id2 := n1 + 4) (x := rowL us hs b t) (r := [.slice (some (rid, 0)) t rc]) rfl
      ⟨rid, rc, rfl, rowL_len _ _ _ _, r1, (by
        rintro (q | q | q)
        · omega
        · have := ltm _ q; omega
        · have := ltw _ q; omega), rb⟩ (growOk_of (by omega) (by omega)) (by omega) (by omega)
    rw [bml] at s2 s4
    generalize hH : (h1.put (n1 + 3) (some ⟨[AV.slice (some (rid, 0)) t rc], 1, true⟩)).puts E.sets = H at s5 s6 s7
    obtain ⟨Ea, hEa⟩ : ∃ z, z = E.a := ⟨_, rfl⟩
    rw [← hEa] at s3 s5 s8
    have om2 : OwnRows (BlkRow .i64 H (n1 + 4 + 1) (avF n0 Ea wa) t) H (n1 + 4 + 1) Ea 1 (msL us hs t (b + 1)) := by
      rw [msL_succ]
      refine s5.go (D := fun _ => False) ⟨Nat.le_refl _, fun _ _ _ => rfl⟩ (fun _ _ q => q) fun x r bb => bb.go s6 (fun i _ q => .inr (.inl q)) fun i hi q => ?_
      rcases q with q | q | q
      · exact .inl q
      · have := s8 i q; omega
      · exact .inr (.inr q)
    have ow2 : OwnRows (BlkRow .u8 H (n1 + 4 + 1) (avF n0 Ea wa) w) H (n1 + 4 + 1) wa 1 (wsL g M w us b) := by
      refine ow1.go s6 (fun i q z => dj i z q) fun x r bb => bb.go s6 (fun i _ q => .inr (.inl q)) fun i hi q => ?_
      rcases q with q | q | q
      · exact .inl q
      · have := s8 i q; omega
      · exact .inr (.inr q)
    -- the column
    have BH := B.ext s7 (X' := X) (fun _ _ q => q)
    obtain ⟨cp, cc, c1, c2⟩ := BH.cut (m := n) (by omega) ok1 oc
    have c2' : Mat H (n1 + 4 + 1) .u8 cp (holed g M w) w := by
      have : (List.range n).map D = holed g M w := by
        unfold holed; rw [hn]
        exact List.map_congr_left fun k hk => D1 k (List.mem_range.1 hk)
      rw [← this]; exact c2
    have hol := holed_len g M w
    obtain ⟨id, h2, n2, e2, i0, i1, ib, x2⟩ := enc_spec (f := k0) (by omega) j hj16 (M := holed g M w) (w := w) (by omega) (by omega) hw (holed_small sM) cc (c2'.ext (nx' := n1 + 12) ⟨by omega, fun _ _ => rfl⟩)
    rw [holed_len, hn] at e2
    have y2 := x2.1
    have B2 := BH.ext (X' := X) (x2.from (show n1 + 4 + 1 ≤ n1 + 12 by omega)) (fun _ _ q => q)
    have rw2 := B2.row (n + j) hjN (ok2 j jm)
    have hD2 := D2 j jm
    rw [hD2] at rw2
    have rlt : ∀ p, (q (n + j)).1 = some p → p.1 < n0 := fun p hp => ((B.row (n + j) hjN (ok2 j jm)).in (id := p.1) (o := p.2) hp).2
    have sy := s7.1
    obtain ⟨h3, n3, e3, l3, b3, k3⟩ := mix_spec (f := k0) (by omega) 1 (by omega) (d := enc (holed g M w) j w) (s := enc M j w) (enc_small _ _ _) (enc_small _ _ _) (n := w) hw (enc_len _ _ _) (enc_len _ _ _) (tid := id) true (q (n + j)).2 (fa := (q (n + j)).1) (h := h2) (nx := n2 + 8) (by omega)
      (fun p hp _ => by have := rlt p hp; omega) ib (rw2.sl.ext (nx' := n2 + 8) ⟨by omega, fun _ _ => rfl⟩)
    rw [show ((1 : Nat) : Int) = 1 from rfl] at e3
    change h3 id = some ⟨ints .u8 (nints (want g M w j)), 1, true⟩ at b3
    have x3 : Ext H (n1 + 4 + 1) h3 n3 := ⟨by omega, fun i hi => by rw [k3 i (by omega) (by omega), x2.2 i (by omega)]⟩
    -- what is wanted is pushed
    have om3 : OwnRows (BlkRow .i64 h3 n3 (avF n0 Ea wa) t) h3 n3 Ea 1 (msL us hs t (b + 1)) := om2.go (x3.fr fun _ => False) (fun _ _ q => q) fun x r b => b.go (x3.fr fun _ => False) (fun _ _ q => q.elim) (fun _ _ q => q)
    have ow3 : OwnRows (BlkRow .u8 h3 n3 (avF n0 Ea wa) w) h3 n3 wa 1 (wsL g M w us b) := ow2.go (x3.fr fun _ => False) (fun _ _ q => q) fun x r b => b.go (x3.fr fun _ => False) (fun _ _ q => q.elim) (fun _ _ q => q)
    obtain ⟨G, t1, t2, t3, t4, t5, t6, t7, t8, _⟩ := ow3.pushE (s7.trans x3) lw wc (bytes := 24) (id := n3 + 2) (id2 := n3 + 3) (x := want g M w j) (r := [.slice (some (id, 0)) w true]) rfl
      ⟨id, true, rfl, want_len _ _ _ _, by omega, (by
        rintro (q | q | q)
        · omega
        · have := s8 _ q; omega
        · have := ltw _ q; omega), b3⟩ (growOk_of (by omega) (by omega)) (by omega) (by omega)
    rw [bwl] at t2 t4
    obtain ⟨Ga, hGa⟩ : ∃ z, z = G.a := ⟨_, rfl⟩
    rw [← hGa] at t3 t5 t8
    have dj2 : ∀ i, ownOf Ea i → ¬ ownOf wa i := fun i q z => by have := s8 i q; have := ltw i z; omega
    generalize hH3 : (h3.put (n3 + 2) (some ⟨[AV.slice (some (id, 0)) w true], 1, true⟩)).puts G.sets = H3 at t5 t6 t7
    have om4 : OwnRows (BlkRow .i64 H3 (n3 + 7) (avF n0 Ea Ga) t) H3 (n3 + 7) Ea 1 (msL us hs t (b + 1)) := by
      refine om3.go (t6.le (by omega)) dj2 fun x r bb => bb.go (t6.le (by omega)) (fun i _ q => .inr (.inr q)) fun i hi q => ?_
      rcases q with q | q | q
      · exact .inl q
      · exact .inr (.inl q)
      · have := t8 i q; omega
    have ow4 : OwnRows (BlkRow .u8 H3 (n3 + 7) (avF n0 Ea Ga) w) H3 (n3 + 7) Ga 1 (wsL g M w us (b + 1)) := by
      rw [wsL_succ, hj]
      refine t5.go (D := fun _ => False) ⟨by omega, fun _ _ _ => rfl⟩ (fun _ _ q => q) fun x r bb => bb.go (t6.le (by omega)) (fun i _ q => .inr (.inr q)) fun i hi q => ?_
      rcases q with q | q | q
      · exact .inl q
      · exact .inr (.inl q)
      · have := t8 i q; omega
    rw [F69_L1_eq, if_pos (by simpa using hi), (su.ext x).readN hu (by omega)]
    simp only [bind_some', asI_int, asB_bool, asStr_str, asP_ptr, asSl_sl, asAgg_1, asAgg_2, asAgg_3, asAgg_4, asTup_0, asTup_2, asTup_3, asTup_4, if_true', if_false', if_not_true', if_not_false', getD_0, getD_1, getD_2, getD_3]
    rw [hju, e1, F69_L2_eq, if_neg (by simp)]
    dsimp only
    rw [s1, some_bind, s2, some_bind, hH, c1, some_bind]
    dsimp only
    rw [e2]
    simp only [bind_some', asI_int, asB_bool, asStr_str, asP_ptr, asSl_sl, asAgg_1, asAgg_2, asAgg_3, asAgg_4, asTup_0, asTup_2, asTup_3, asTup_4, if_true', if_false', if_not_true', if_not_false', getD_0, getD_1, getD_2, getD_3]
    rw [if_pos ⟨by rw [wA (by omega) (by omega)]; omega, by rw [wA (by omega) (by omega)]; omega⟩, show wrapA .i64 ((n : Int) + (j : Int)) = ((n + j : Nat) : Int) from by rw [wA (by omega) (by omega)]; omega, B2.rd hjN (ok2 j jm)]
    simp only [bind_some', asI_int, asB_bool, asStr_str, asP_ptr, asSl_sl, asAgg_1, asAgg_2, asAgg_3, asAgg_4, asTup_0, asTup_2, asTup_3, asTup_4, if_true', if_false', if_not_true', if_not_false', getD_0, getD_1, getD_2, getD_3]
    rw [e3]
    simp only [bind_some', asI_int, asB_bool, asStr_str, asP_ptr, asSl_sl, asAgg_1, asAgg_2, asAgg_3, asAgg_4, asTup_0, asTup_2, asTup_3, asTup_4, if_true', if_false', if_not_true', if_not_false', getD_0, getD_1, getD_2, getD_3]
    rw [t1, some_bind, t2, some_bind, hH3, s4, t4, wsucc (by omega), ← hEa, ← hGa]
    exact ih f (b + 1) Ea Ga E.c G.c H3 (n3 + 7) (by omega) (by omega) (t7.le (by omega)) om4 ow4 (fun i q => by have := s8 i q; omega) (fun i q => by have := t8 i q; omega) (fun i q z => by have := s8 i q; have := t8 i z; omega)

end Go.Proofs.Ytdfopcgfhjijgaa.T

namespace Go.Proofs.Ytdfopcgfhjijgaa.T
open Go Go.RowKit Go.Proofs

/-! ### par.fill: the holes -/
theorem invF_congr {t : Nat} {m m' : Fm} (e : ∀ i j, i < t → j < t → m i j = m' i j) {i k : Nat} (hi : i < t) (hk : k < t) : invF t m i k = invF t m' i k := by
  unfold invF
  refine (red_agree (n := t) (C := t + t) t 0 0 (aug t m) (aug t m') (by omega) fun i j hi hj => ?_).2 i (t + k) hi (by omega)
  by_cases h : j < t
  · rw [aug_l h, aug_l h, e i j hi h]
  · unfold aug; rw [if_neg h, if_neg h]
theorem ent_msL {us hs : List Nat} {t i j : Nat} (hi : i < t) (hj : j < t) : ent (msL us hs t t) i j = facF us hs i j := by
  simp [ent, msL, rowL, List.getD, List.getElem?_range hi, List.getElem?_range hj]

def fY (lo n0 : Nat) (X : Nat → Prop) : Nat → Prop := fun i => lo ≤ i ∧ i < n0 ∧ ¬ X i

theorem hole_loop {k0 : Nat} (hk0 : 5010 ≤ k0) (lf L0 : Nat) {w n t N : Nat} (hw : w ≤ 4096) (hN : N ≤ 256) (ht : t ≤ 16) {Rm : Fm} (hR : F8 Rm) {W : Nat → List Nat} (hWl : ∀ c, (W c).length = w) (hWs : ∀ c, Small (W c)) {a k : Nat} (ha' : a < t) (hk : k < N)
    {ok : Nat → Bool} {q : Nat → Rw} {Dc : Nat → List Nat} {X : Nat → Prop} (okk : ok k = true) {tid : Nat} {ob lo n0 : Nat} (qk : (q k).1 = some (tid, 0)) (t0 : lo ≤ tid) (t1 : tid < n0) (tX : ¬ X tid) (oc : Bool)
    {h1 : AHeap} {n1 : Nat} (l01 : n0 ≤ n1) {wa ha : Option (Nat × Nat)} (wc hc : Bool) {A : Nat → Prop} (hA : ∀ i, i < n0 → A i) {ws : List (List Nat)} (wsl : ws.length = t) (wsg : ∀ c (hc : c < t), ws[c]'(by omega) = W c) (ow : OwnRows (BlkRow .u8 h1 n1 A w) h1 n1 wa 1 ws) (lw : ∀ i, ownOf wa i → n0 ≤ i)
    {lr hd : Nat} {bl : Nat → Nat} {cl : Nat → Bool} (gm : GM h1 lr n1 t t hd bl cl Rm) (lrn : n0 ≤ lr) (rc : Bool) (m : Nat) :
    ∀ (f b : Nat) (h : AHeap) (nx : Nat), b + m = t → m < f → Frm (fY lo n0 X) h1 n1 h nx → Bld h lo nx ob w N ok q (fun j => if j = k then fillTo Rm W w a b else Dc j) X →
    ∃ (h' : AHeap) (nx' : Nat), F69_L4 (callP Try.prog keepT k0) Y0 lf L0 f (some (ob, 0)) N oc (some (hd, 0)) t rc wa t wc (a : Int) (k : Int) ha t hc ((t : Nat) : Int) (a : Int) wa t wc ((t : Nat) : Int) (b : Int) h nx =
        F69_L3 (callP Try.prog keepT k0) Y0 lf L0 (some (ob, 0)) N oc (some (hd, 0)) t rc wa t wc ha t hc ((t : Nat) : Int) ((a + 1 : Nat) : Int) h' nx' ∧ Frm (fY lo n0 X) h1 n1 h' nx' ∧ Bld h' lo nx' ob w N ok q (fun j => if j = k then fillTo Rm W w a t else Dc j) X := by
  induction m with
  | zero =>
    intro f b h nx e hf fr B
    obtain ⟨f, rfl⟩ : ∃ m, f = m + 1 := ⟨f - 1, by omega⟩
    obtain rfl : b = t := by omega
    rw [F69_L4_eq, if_neg (by simp), wsucc (by omega)]
    exact ⟨h, nx + 3, rfl, fr.le (by omega), B.ext ⟨by omega, fun _ _ => rfl⟩ (fun _ _ q => q)⟩
  | succ m ih =>
    intro f b h nx e hf fr B
    obtain ⟨f, rfl⟩ : ∃ m, f = m + 1 := ⟨f - 1, by omega⟩
    have hi : b < t := by omega
    have y := fr.1
    have ow' : OwnRows (BlkRow .u8 h nx A w) h nx wa 1 ws := ow.go fr (fun i q z => by have := lw i q; have := z.2.1; omega) fun x r bb => bb.go fr (fun i _ z => hA i z.2.1) (fun _ _ q => q)
    have rws := ow'.rows (A := fun _ => False) (fun _ _ q => q)
    have hget : ws[b]? = some (W b) := by rw [List.getElem?_eq_getElem (by omega), wsg b hi]
    obtain ⟨r, ⟨id, c, rfl, i2, i3, i4, i5⟩, _, rd⟩ := rws.read0 (R := AV × AHeap × Nat) hget (by omega)
    rw [wsl] at rd
    have gm' := gm.keep (h' := h) fun j hj1 hj2 => fr.2 j hj2 fun z => by have := z.2.1; omega
    have hrow := B.row k hk okk
    simp only [if_true] at hrow
    have hbk : h tid = some ⟨ints .u8 (nints (fillTo Rm W w a b)), 1, true⟩ := by
      rcases hrow.2 with ⟨z, _⟩ | ⟨i, z, _, _, z4⟩
      · rw [z] at qk; cases qk
      · rw [z] at qk
        have := congrArg Prod.fst (Option.some.inj qk)
        simp only at this; subst this; exact z4
    obtain ⟨h3, n3, e3, l3, b3, k3⟩ := mix_spec (f := k0) (by omega) (Rm a b) (hR a b) (d := fillTo Rm W w a b) (s := W b) (fillTo_small hR _ _ _ _) (hWs b) (n := w) hw (fillTo_len _ _ _ _ _) (hWl b) (tid := tid) (q k).2 c (fa := some (id, 0)) (h := h) (nx := nx + 19) (by omega)
      (fun p hp _ => by
        obtain rfl := Option.some.inj hp
        rintro rfl
        exact i4 (hA _ t1)) hbk (Sl.ofBlk i5 (by simp [nints_len, hWl]) (by omega))
    rw [fillTo_succ (hWl b)] at b3
    rw [F69_L4_eq, if_pos (by simpa using hi)]
    rw [rd (.slice (some (id, 0)) w c) _ rfl]
    simp only [bind_some', asI_int, asB_bool, asStr_str, asP_ptr, asSl_sl, asAgg_1, asAgg_2, asAgg_3, asAgg_4, asTup_0, asTup_2, asTup_3, asTup_4, if_true', if_false', if_not_true', if_not_false', getD_0, getD_1, getD_2, getD_3]
    rw [if_pos ⟨by omega, by omega⟩, B.rd hk okk]
    simp only [bind_some', asI_int, asB_bool, asStr_str, asP_ptr, asSl_sl, asAgg_1, asAgg_2, asAgg_3, asAgg_4, asTup_0, asTup_2, asTup_3, asTup_4, if_true', if_false', if_not_true', if_not_false', getD_0, getD_1, getD_2, getD_3]
    rw [gm'.rd ha']
    simp only [bind_some', asI_int, asB_bool, asStr_str, asP_ptr, asSl_sl, asAgg_1, asAgg_2, asAgg_3, asAgg_4, asTup_0, asTup_2, asTup_3, asTup_4, if_true', if_false', if_not_true', if_not_false', getD_0, getD_1, getD_2, getD_3]
    rw [irow_rd (gm'.row a ha') hi]
    simp only [bind_some', asI_int, asB_bool, asStr_str, asP_ptr, asSl_sl, asAgg_1, asAgg_2, asAgg_3, asAgg_4, asTup_0, asTup_2, asTup_3, asTup_4, if_true', if_false', if_not_true', if_not_false', getD_0, getD_1, getD_2, getD_3]
    rw [qk, e3]
    simp only [bind_some', asI_int, asB_bool, asStr_str, asP_ptr, asSl_sl, asAgg_1, asAgg_2, asAgg_3, asAgg_4, asTup_0, asTup_2, asTup_3, asTup_4, if_true', if_false', if_not_true', if_not_false', getD_0, getD_1, getD_2, getD_3]
    rw [wsucc (by omega)]
    refine ih f (b + 1) h3 (n3 + 2) (by omega) (by omega) (fr.trans (D1 := fun i => i = tid) ⟨by omega, fun i hi hne => k3 i (by omega) hne⟩ fun i _ z => by subst z; exact ⟨t0, t1, tX⟩) ?_
    refine (B.chg hk okk qk (fillTo_len _ _ _ _ _) (nx' := n3 + 2) (by omega) b3 fun j hj hne => k3 j (by omega) hne).congr (fun _ _ => rfl) fun j _ _ => ?_
    by_cases e : j = k
    · simp only [if_pos e]
    · simp only [if_neg e]

theorem fill_second {k0 : Nat} (hk0 : 5010 ≤ k0) (lf : Nat) (hlf : 100 ≤ lf) {M : List (List Nat)} {w n t N : Nat} (hw : w ≤ 4096) (hN : N ≤ 256) (hnN : n ≤ N) (ht : t ≤ 16) {Rm : Fm} (hR : F8 Rm) {W : Nat → List Nat} (hWl : ∀ c, (W c).length = w) (hWs : ∀ c, Small (W c)) {hs : List Nat} (hh : hs.length = t) (nd : hs.Pairwise (· < ·)) (hn : ∀ i ∈ hs, i < n)
    (hfin : ∀ a, a < t → fillTo Rm W w a t = M.getD (hs.getD a 0) [])
    {ok : Nat → Bool} {q : Nat → Rw} {D : Nat → List Nat} {X : Nat → Prop} (ok1 : ∀ k, k < n → ok k = true) {ob lo n0 : Nat} (hq : ∀ k ∈ hs, ∃ tid, (q k).1 = some (tid, 0) ∧ tid < n0) (D1 : ∀ k ∈ hs, D k = List.replicate w 0) (oc : Bool)
    {h1 : AHeap} {n1 : Nat} (l01 : n0 ≤ n1) {wa ha : Option (Nat × Nat)} (wc hc : Bool) {A : Nat → Prop} (hA : ∀ i, i < n0 → A i) {ws : List (List Nat)} (wsl : ws.length = t) (wsg : ∀ c (hc : c < t), ws[c]'(by omega) = W c) (ow : OwnRows (BlkRow .u8 h1 n1 A w) h1 n1 wa 1 ws) (lw : ∀ i, ownOf wa i → n0 ≤ i)
    {lr hd : Nat} {bl : Nat → Nat} {cl : Nat → Bool} (gm : GM h1 lr n1 t t hd bl cl Rm) (lrn : n0 ≤ lr) (rc : Bool) (sh : Sl h1 n1 ha t 1 (ints .i64 (nints hs))) (hX : ∀ i, ownOf ha i → X i) (m : Nat) :
    ∀ (f a : Nat) (h : AHeap) (nx : Nat), a + m = t → m < f → Frm (fY lo n0 X) h1 n1 h nx → Bld h lo nx ob w N ok q (fun j => if j ∈ hs.take a then M.getD j [] else D j) X →
    ∃ (h' : AHeap) (nx' : Nat), F69_L3 (callP Try.prog keepT k0) Y0 lf f (some (ob, 0)) N oc (some (hd, 0)) t rc wa t wc ha t hc ((t : Nat) : Int) (a : Int) h nx = some (.tuple [], h', nx') ∧ Frm (fY lo n0 X) h1 n1 h' nx' ∧ Bld h' lo nx' ob w N ok q (fun j => if j ∈ hs then M.getD j [] else D j) X := by
  induction m with
  | zero =>
    intro f a h nx e hf fr B
    obtain ⟨f, rfl⟩ : ∃ m, f = m + 1 := ⟨f - 1, by omega⟩
    obtain rfl : a = t := by omega
    rw [F69_L3_eq, if_neg (by simp)]
    rw [List.take_of_length_le (by omega)] at B
    exact ⟨h, nx + 1, rfl, fr.le (by omega), B.ext ⟨by omega, fun _ _ => rfl⟩ (fun _ _ q => q)⟩
  | succ m ih =>
    intro f a h nx e hf fr B
    obtain ⟨f, rfl⟩ : ∃ m, f = m + 1 := ⟨f - 1, by omega⟩
    have hi : a < t := by omega
    obtain ⟨k, hk⟩ : ∃ k, hs[a]'(by omega) = k := ⟨_, rfl⟩
    have km : k ∈ hs := by rw [← hk]; exact List.getElem_mem _
    have kn := hn k km
    obtain ⟨tid, qk, t1⟩ := hq k km
    have okk := ok1 k kn
    have hin := (B.row k (by omega) okk).in qk
    have tX := (B.rx k (by omega) okk tid qk).2
    have sh' : Sl h nx ha t 1 (ints .i64 (nints hs)) := sh.fr (D := fY lo n0 X) (fun _ p hp z => z.2.2 (hX _ ⟨p.2, by rw [hp]⟩)) fr
    have knt : k ∉ hs.take a := by
      intro hm
      obtain ⟨i, hi', e'⟩ := List.getElem_of_mem hm
      have hia : i < a := by rw [List.length_take] at hi'; omega
      rw [List.getElem_take] at e'
      have := (List.pairwise_iff_getElem.1 nd) i a (by omega) (by omega) hia
      omega
    have B' : Bld h lo (nx + 9) ob w N ok q (fun j => if j = k then fillTo Rm W w a 0 else if j ∈ hs.take a then M.getD j [] else D j) X := by
      refine (B.ext (nx' := nx + 9) ⟨by omega, fun _ _ => rfl⟩ (X' := X) (fun _ _ q => q)).congr (fun _ _ => rfl) fun j _ _ => ?_
      by_cases ej : j = k
      · subst ej; simp only [if_true]; rw [if_neg knt, fillTo_zero, D1 j km]
      · simp only [if_neg ej]
    obtain ⟨h2, n2, e2, f2, b2⟩ := hole_loop hk0 lf f (n := n) hw hN ht hR hWl hWs hi (by omega) okk qk hin.1 t1 tX oc l01 wc hc (ha := ha) hA wsl wsg ow lw gm lrn rc t lf 0 h (nx + 9) (by omega) (by omega) (fr.le (by omega)) B'
    rw [show ((0 : Nat) : Int) = 0 from rfl] at e2
    rw [F69_L3_eq, if_pos (by simpa using hi), sh'.readN hh (by omega)]
    simp only [bind_some', asI_int, asB_bool, asStr_str, asP_ptr, asSl_sl, asAgg_1, asAgg_2, asAgg_3, asAgg_4, asTup_0, asTup_2, asTup_3, asTup_4, if_true', if_false', if_not_true', if_not_false', getD_0, getD_1, getD_2, getD_3]
    rw [hk, e2]
    refine ih f (a + 1) h2 n2 (by omega) (by omega) f2 (b2.congr (fun _ _ => rfl) fun j _ _ => ?_)
    have htk : hs.take (a + 1) = hs.take a ++ [k] := by rw [← hk]; exact List.take_succ_eq_append_getElem (by omega)
    rw [htk]
    by_cases ej : j = k
    · subst ej
      rw [if_pos rfl, if_pos (by simp), hfin a hi, getD_at (l := hs) (by omega), hk]
    · rw [if_neg ej]
      simp only [List.mem_append, List.mem_singleton, ej, or_false]

/-- par.fill: what was lost is there again. -/
theorem fill_spec {f : Nat} (hf : 5200 ≤ f) {g : Nat → Bool} {M : List (List Nat)} {w n t N : Nat} (hn : M.length = n) (hn1 : 1 ≤ n) (hn12 : n ≤ 12) (hnN : n ≤ N) (hN : N ≤ 256) (hM : ∀ r ∈ M, r.length = w) (sM : SmallM M) (hw : w ≤ 4096)
    {us hs : List Nat} (hu : us.length = t) (hh : hs.length = t) (hhs : hs = (List.range n).filter g) (pu : us.Pairwise (· < ·)) (u3 : ∀ u ∈ us, u < 3) (uN : ∀ u ∈ us, n + u < N) (t8 : t ≤ 8)
    {ha ua : Option (Nat × Nat)} (hc uc oc : Bool) {h : AHeap} {nx lo ob : Nat} {ok : Nat → Bool} {q : Nat → Rw} {D : Nat → List Nat} {X : Nat → Prop} (B : Bld h lo nx ob w N ok q D X) (ok1 : ∀ k, k < n → ok k = true) (ok2 : ∀ u ∈ us, ok (n + u) = true)
    (hq : ∀ k, k < n → g k = true → ∃ tid, (q k).1 = some (tid, 0))
    (D1 : ∀ k, k < n → D k = if g k then List.replicate w 0 else M.getD k []) (D2 : ∀ u ∈ us, D (n + u) = enc M u w) (sh : Sl h nx ha t 1 (ints .i64 (nints hs))) (su : Sl h nx ua t 1 (ints .i64 (nints us))) (hX : ∀ i, ownOf ha i → X i) :
    ∃ (h' : AHeap) (nx' : Nat), callP Try.prog keepT f Y0 69 [.slice (some (ob, 0)) N oc, .int .i64 (n : Int), .slice ha t hc, .slice ua t uc] h nx = some (.tuple [], h', nx') ∧ Frm (fun i => lo ≤ i ∧ ¬ X i) h nx h' nx' ∧ Bld h' lo nx' ob w N ok q (fun j => if j < n then M.getD j [] else D j) X := by
  obtain ⟨f, rfl⟩ : ∃ m, f = m + 1 := ⟨f - 1, by omega⟩
  have hmem : ∀ k, k ∈ hs ↔ k < n ∧ g k = true := fun k => by rw [hhs]; simp [List.mem_filter]
  have fin : ∀ j, (if j < n then M.getD j [] else D j) = if j ∈ hs then M.getD j [] else D j := fun j => by
    by_cases hj : j < n
    · rw [if_pos hj]
      by_cases hg : g j = true
      · rw [if_pos ((hmem j).2 ⟨hj, hg⟩)]
      · rw [if_neg fun z => hg ((hmem j).1 z).2, D1 j hj, if_neg hg]
    · rw [if_neg hj, if_neg fun z => hj ((hmem j).1 z).1]
  by_cases ht0 : t = 0
  · subst ht0
    rw [F69_eq, if_pos (by simp)]
    refine ⟨h, nx + 3, rfl, ⟨by omega, fun _ _ _ => rfl⟩, (B.ext (nx' := nx + 3) ⟨by omega, fun _ _ => rfl⟩ (fun _ _ q => q)).congr (fun _ _ => rfl) fun j _ _ => ?_⟩
    rw [fin j]
    have : hs = [] := List.length_eq_zero_iff.1 hh
    rw [this]; simp
  have nd : hs.Pairwise (· < ·) := by rw [hhs]; exact List.Pairwise.filter _ List.pairwise_lt_range
  have h12 : ∀ i ∈ hs, i < 12 := fun i hi => by have := ((hmem i).1 hi).1; omega
  obtain ⟨f', ma, wa, mc, wc, h1, n1, e1, x1, om, ow, lw⟩ := fill_first (k0 := f) (by omega) f (by omega) hn hn1 hn12 hN hM sM hw hu hh (by omega) (by omega) (fun i hi => by have := h12 i hi; omega) (fun u hu => by have := u3 u hu; omega) uN hc uc oc
    (B.ext (nx' := nx + 9) ⟨by omega, fun _ _ => rfl⟩ (X' := X) (fun _ _ q => q)) ok1 ok2 D1 D2 (sh.ext (nx' := nx + 9) ⟨by omega, fun _ _ => rfl⟩) (su.ext (nx' := nx + 9) ⟨by omega, fun _ _ => rfl⟩) t f 0 none none false false h (nx + 9) (by omega) (by omega) (Ext.refl _ _) (OwnRows.nil _ _ _ _) (OwnRows.nil _ _ _ _) (fun i ⟨_, z⟩ => by cases z) (fun i ⟨_, z⟩ => by cases z) (fun i ⟨_, z⟩ => by cases z)
  rw [show ((0 : Nat) : Int) = 0 from rfl] at e1
  have y1 := x1.1
  have mm : Mat h1 n1 .i64 ma (msL us hs t t) t := by
    have := om.mat (D := fun x => x) (kd := .i64) (w := t) fun x _ r b => b.rw
    rwa [List.map_id'] at this
  have sms : SmallM (msL us hs t t) := by
    intro r hr x hx
    obtain ⟨c, _, rfl⟩ := List.mem_map.1 hr
    obtain ⟨a, _, rfl⟩ := List.mem_map.1 hx
    exact fac_lt _ _
  have full : rk t t (ent (msL us hs t t)) = t := by
    rw [rk_congr (N := facF us hs) fun i j hi hj => ent_msL hi hj]
    exact facF_full hu hh pu nd u3 h12
  obtain ⟨oa, orc, h2, n2, e2, w2, x2⟩ := (inv_matrix (f := f) (by omega) (msL_len us hs t t) (by omega) t8 sms mc (mm.ext (nx' := n1 + 7) ⟨by omega, fun _ _ => rfl⟩)).2 full
  have y2 := x2.1
  obtain ⟨hd, bl, cl, rfl, gm⟩ := w2.gm (by omega) (by rw [lst_len]; omega)
  rw [lst_len] at gm
  have gm2 : GM h2 (n1 + 7) n2 t t hd bl cl (invF t (facF us hs)) := gm.congr fun i j hi hj => by
    rw [lst_ent hi hj]
    exact invF_congr (fun i j hi hj => ent_msL hi hj) hi hj
  have xx : Ext h (nx + 9) h2 n2 := x1.trans (x2.from (by omega))
  have B2 := (B.ext (nx' := nx + 9) ⟨by omega, fun _ _ => rfl⟩ (X' := X) (fun _ _ q => q)).ext xx (X' := X) (fun _ _ q => q)
  have ow2 : OwnRows (BlkRow .u8 h2 n2 (avF (nx + 9) ma wa) w) h2 n2 wa 1 (wsL g M w us t) := ow.go ((x2.from (show n1 ≤ n1 + 7 by omega)).fr fun _ => False) (fun _ _ q => q) fun x r b => b.go ((x2.from (show n1 ≤ n1 + 7 by omega)).fr fun _ => False) (fun _ _ q => q.elim) (fun _ _ q => q)
  have hfin : ∀ a, a < t → fillTo (invF t (facF us hs)) (fun b => want g M w (us.getD b 0)) w a t = M.getD (hs.getD a 0) [] := fun a ha => by
    rw [hhs, ← hn] at hh ⊢
    exact fill_law hM sM (by omega) hu hh pu u3 ha
  obtain ⟨h3, n3, e3, f3, b3⟩ := fill_second (k0 := f) (by omega) f (by omega) hw hN hnN (by omega) (invF_F8 (facF_F8 us hs)) (W := fun b => want g M w (us.getD b 0)) (fun _ => want_len _ _ _ _) (fun _ => want_small _ _ _ _) hh nd (fun i hi => ((hmem i).1 hi).1) hfin ok1 (lo := lo) (n0 := nx + 9) (ob := ob)
    (fun k hk => by
      obtain ⟨tid, z⟩ := hq k ((hmem k).1 hk).1 ((hmem k).1 hk).2
      exact ⟨tid, z, by have := ((B.row k (by have := ((hmem k).1 hk).1; omega) (ok1 k ((hmem k).1 hk).1)).in z).2; omega⟩)
    (D := D) (fun k hk => by rw [D1 k ((hmem k).1 hk).1, if_pos ((hmem k).1 hk).2]) oc (h1 := h2) (n1 := n2 + 3) (by omega) wc hc (A := avF (nx + 9) ma wa) (fun i hi => .inl hi) (wsL_len g M w us t) (fun c hc => by simp [wsL])
    (ow2.go (h' := h2) (nx' := n2 + 3) (D := fun _ => False) ⟨by omega, fun _ _ _ => rfl⟩ (fun _ _ q => q) fun x r b => b.go (Y := fun _ => False) ⟨by omega, fun _ _ _ => rfl⟩ (fun _ _ q => q.elim) (fun _ _ q => q)) lw
    (GM.mk gm2.hdr gm2.row gm2.inj gm2.ne gm2.lohd (by have := gm2.hdm; omega) gm2.lobl (fun i hi => by have := gm2.blm i hi; omega)) (by omega) orc
    ((sh.ext (nx' := nx + 9) ⟨by omega, fun _ _ => rfl⟩).ext (xx.le (show n2 ≤ n2 + 3 by omega))) hX t f 0 h2 (n2 + 3) (by omega) (by omega) (Frm.refl _ _ _)
    ((B2.ext (nx' := n2 + 3) ⟨by omega, fun _ _ => rfl⟩ (X' := X) (fun _ _ q => q)).congr (fun _ _ => rfl) fun j _ _ => by rw [List.take_zero]; simp)
  rw [show ((0 : Nat) : Int) = 0 from rfl] at e3
  have y3 := f3.1
  rw [F69_eq, if_neg (by simp; omega), e1, F69_L1_eq, if_neg (by simp), e2]
  simp only [bind_some', asI_int, asB_bool, asStr_str, asP_ptr, asSl_sl, asAgg_1, asAgg_2, asAgg_3, asAgg_4, asTup_0, asTup_2, asTup_3, asTup_4, if_true', if_false', if_not_true', if_not_false', getD_0, getD_1, getD_2, getD_3]
  rw [e3]
  refine ⟨h3, n3, rfl, ⟨by omega, fun i hi hne => ?_⟩, b3.congr (fun _ _ => rfl) fun j _ _ => (fin j).symm⟩
  rw [f3.2 i (by omega) fun z => hne ⟨z.1, z.2.2⟩, xx.2 i (by omega)]

end Go.Proofs.Ytdfopcgfhjijgaa.T

namespace Go.Proofs.Ytdfopcgfhjijgaa.T
open Go Go.RowKit Go.Proofs

/-! ### par.rebuilt -/
def colD (M : List (List Nat)) (n w k : Nat) : List Nat := if k < n then M.getD k [] else enc M (k - n) w
def newD (g : Nat → Bool) (M : List (List Nat)) (n w k : Nat) : List Nat := if g k then List.replicate w 0 else colD M n w k
def okA (g : Nat → Bool) (n i j : Nat) : Bool := decide (j < i) && (!g j || decide (j < n))
theorem okA_iff (g : Nat → Bool) (n i j : Nat) : okA g n i j = true ↔ j < i ∧ (g j = false ∨ j < n) := by simp [okA]
theorem okA_set {g : Nat → Bool} {n i : Nat} (h : g i = false ∨ i < n) (j : Nat) : (j == i || okA g n i j) = okA g n (i + 1) j := by
  rw [Bool.eq_iff_iff, Bool.or_eq_true, okA_iff, okA_iff, beq_iff_eq]
  constructor
  · rintro (rfl | ⟨a, b⟩)
    · exact ⟨by omega, h⟩
    · exact ⟨by omega, b⟩
  · rintro ⟨a, b⟩
    by_cases e : j = i
    · exact .inl e
    · exact .inr ⟨by omega, b⟩
theorem okA_skip {g : Nat → Bool} {n i : Nat} (h : g i = true) (h' : n ≤ i) (j : Nat) : okA g n i j = okA g n (i + 1) j := by
  rw [Bool.eq_iff_iff, okA_iff, okA_iff]
  constructor
  · rintro ⟨a, b⟩; exact ⟨by omega, b⟩
  · rintro ⟨a, b⟩
    refine ⟨?_, b⟩
    by_cases e : j = i
    · subst e
      rcases b with b | b
      · rw [h] at b; cases b
      · omega
    · omega
def hol (g : Nat → Bool) (n i : Nat) : List Nat := (List.range i).filter fun j => g j && decide (j < n)
theorem hol_succ (g : Nat → Bool) (n i : Nat) : hol g n (i + 1) = if g i = true ∧ i < n then hol g n i ++ [i] else hol g n i := by
  unfold hol
  rw [List.range_succ, List.filter_append]
  by_cases h : g i = true ∧ i < n
  · rw [if_pos h]; simp [h.1, h.2]
  · rw [if_neg h]
    have : (g i && decide (i < n)) = false := by
      rw [← Bool.not_eq_true, Bool.and_eq_true, decide_eq_true_eq]; exact h
    simp [this]
theorem hol_le (g : Nat → Bool) (n i : Nat) : (hol g n i).length ≤ i := by
  have := List.length_filter_le (fun j => g j && decide (j < n)) (List.range i)
  simpa [hol] using this
theorem hol_all (g : Nat → Bool) {n i : Nat} (h : n ≤ i) : hol g n i = (List.range n).filter g := by
  induction i with
  | zero => obtain rfl : n = 0 := by omega
            rfl
  | succ i ih =>
    by_cases e : n ≤ i
    · rw [hol_succ, if_neg (by omega), ih e]
    · obtain rfl : n = i + 1 := by omega
      unfold hol
      exact List.filter_congr fun j hj => by simp [List.mem_range.1 hj]

theorem nI (l : List Nat) : ints .i64 (nints l) = l.map fun x => AV.int .i64 ((x : Nat) : Int) := by simp [ints, nints]
/-- Numbers in a block of one's own. -/
abbrev NRow : Nat → List AV → Prop := fun k r => r = [AV.int .i64 ((k : Nat) : Int)]
theorem NRow.sl {h : AHeap} {nx : Nat} {a : Option (Nat × Nat)} {l : List Nat} {n : Nat} (o : OwnRows NRow h nx a 1 l) (hl : l.length = n) : Sl h nx a n 1 (ints .i64 (nints l)) := by
  obtain ⟨rows, q, len, s, _⟩ := o.rows (A := fun _ => False) (fun _ _ q => q)
  subst hl
  have : ∀ {l : List Nat} {rows : List (List AV)}, All2 NRow l rows → rows.flatten = ints .i64 (nints l) := by
    intro l
    induction l with
    | nil => intro rows e; simp only [All2] at e; subst e; rfl
    | cons x l ih =>
      intro rows e
      obtain ⟨r, rs, rfl, rfl, b⟩ := e
      rw [List.flatten_cons, ih b]; rfl
  rw [← this q]; exact s

theorem reb_first {k0 : Nat} (hk0 : 5 ≤ k0) (lf : Nat) {g : Nat → Bool} {M : List (List Nat)} {w n N : Nat} (hN : N ≤ 256) (hw : w ≤ 4096) {a ga : Option (Nat × Nat)} (c gc oc : Bool) {h0 : AHeap} {lo : Nat} (t : Torn h0 lo a N g w (colD M n w)) (sg : Sl h0 lo ga N 1 (bls g N)) {ob : Nat} (b0 : lo ≤ ob) (m : Nat) :
    ∀ (f i : Nat) (q : Nat → Rw) (ha : Option (Nat × Nat)) (hc : Bool) (h : AHeap) (nx : Nat), i + m = N → m < f → Ext h0 lo h nx → Bld h lo nx ob w N (okA g n i) q (newD g M n w) (ownOf ha) → OwnRows NRow h nx ha 1 (hol g n i) → (∀ i, ownOf ha i → lo ≤ i) → (∀ k, k < i → k < n → g k = true → ∃ tid, (q k).1 = some (tid, 0)) →
    ∃ (q' : Nat → Rw) (ha' : Option (Nat × Nat)) (hc' : Bool) (h' : AHeap) (nx' : Nat), F56_L1 (callP Try.prog keepT k0) Y0 lf f a N c (n : Int) ga N gc (w : Int) (some (ob, 0)) N oc ha (hol g n i).length hc none 0 false a N c ((N : Nat) : Int) (i : Int) h nx =
        F56_L2 (callP Try.prog keepT k0) Y0 lf lf a N c (n : Int) ga N gc (some (ob, 0)) N oc ha' (hol g n N).length hc' none 0 false (n : Int) h' nx' ∧ Ext h0 lo h' nx' ∧ Bld h' lo nx' ob w N (okA g n N) q' (newD g M n w) (ownOf ha') ∧ OwnRows NRow h' nx' ha' 1 (hol g n N) ∧ (∀ i, ownOf ha' i → lo ≤ i) ∧ (∀ k, k < N → k < n → g k = true → ∃ tid, (q' k).1 = some (tid, 0)) := by
  obtain ⟨P, s, tk⟩ := t
  induction m with
  | zero =>
    intro f i q ha hc h nx e hf x B o lh hq
    obtain ⟨f, rfl⟩ : ∃ m, f = m + 1 := ⟨f - 1, by omega⟩
    obtain rfl : i = N := by omega
    rw [F56_L1_eq, if_neg (by simp)]
    exact ⟨q, ha, hc, h, nx + 3, rfl, x.le (by omega), B.ext ⟨by omega, fun _ _ => rfl⟩ (fun _ _ q => q), o.go (D := fun _ => False) ⟨by omega, fun _ _ _ => rfl⟩ (fun _ _ q => q) (fun _ _ q => q), lh, hq⟩
  | succ m ih =>
    intro f i q ha hc h nx e hf x B o lh hq
    obtain ⟨f, rfl⟩ : ∃ m, f = m + 1 := ⟨f - 1, by omega⟩
    have hi : i < N := by omega
    have y := x.1
    have hlt := o.lt
    have hll := hol_le g n i
    rw [F56_L1_eq, if_pos (by simpa using hi), (s.ext x).readP hi]
    simp only [bind_some', asI_int, asB_bool, asStr_str, asP_ptr, asSl_sl, asAgg_1, asAgg_2, asAgg_3, asAgg_4, asTup_0, asTup_2, asTup_3, asTup_4, if_true', if_false', if_not_true', if_not_false', getD_0, getD_1, getD_2, getD_3]
    rw [(sg.ext x).readB hi]
    simp only [bind_some', asI_int, asB_bool, asStr_str, asP_ptr, asSl_sl, asAgg_1, asAgg_2, asAgg_3, asAgg_4, asTup_0, asTup_2, asTup_3, asTup_4, if_true', if_false', if_not_true', if_not_false', getD_0, getD_1, getD_2, getD_3]
    by_cases hg : g i = true
    · rw [hg, if_not_true']
      by_cases hin : i < n
      · -- a hole
        rw [if_pos (by simpa using hin)]
        have hs := hol_succ g n i
        rw [if_pos ⟨hg, hin⟩] at hs
        obtain ⟨E, s1, s2, s3, s4, s5, s6, s7, s8, s9⟩ := o.pushE x lh hc (bytes := 8) (id := nx + 20) (id2 := nx + 21) (x := i) (r := [AV.int .i64 (i : Int)]) rfl rfl (growOk_of (by omega) (by omega)) (by omega) (by omega)
        rw [s1, some_bind, s2, some_bind, s4]
        obtain ⟨Ea, hEa⟩ : ∃ z, z = E.a := ⟨_, rfl⟩
        rw [← hEa] at s3 s5 s8
        generalize hH : (h.put (nx + 20) (some ⟨[AV.int .i64 (i : Int)], 1, true⟩)).puts E.sets = H at s5 s6 s7
        have aa : AllApart [([nx + 23], E.reads)] := ⟨fun z hz hz2 => by
          have hz : z = nx + 23 := by simpa using hz
          rcases s9 z hz2 with q | q
          · have := hlt z q; omega
          · omega, trivial⟩
        rw [if_pos (by simp; omega)]
        have hz : madeA [AV.int .u8 0] (Int.toNat ((w : Nat) : Int) * 1) = ints .u8 (nints (List.replicate w 0)) := by
          rw [Int.toNat_natCast, Nat.mul_one, made1]; simp [ints, nints]
        rw [hz, show Int.toNat ((w : Nat) : Int) = w from Int.toNat_natCast w, show (((w : Nat) : Int) == ((w : Nat) : Int)) = true from by simp]
        have fH : Frm (ownOf ha) h nx (H.put (nx + 23) (some ⟨ints .u8 (nints (List.replicate w 0)), 1, true⟩)) (nx + 24) := s6.put (.inr (by omega)) (by omega)
        have B1 : Bld (H.put (nx + 23) (some ⟨ints .u8 (nints (List.replicate w 0)), 1, true⟩)) lo (nx + 24) ob w N (okA g n i) q (newD g M n w) (ownOf Ea) := B.go fH (fun _ _ q => q) fun j hj z => by have := s8 j z; omega
        have hD : newD g M n w i = List.replicate w 0 := by unfold newD; rw [if_pos hg]
        have ob1 := B.b1
        obtain ⟨p1, p2⟩ := B1.set hi (r := (some (nx + 23, 0), true)) (by rw [hD]; exact ⟨by simp, .inr ⟨nx + 23, rfl, by omega, by omega, put_same _ _ _⟩⟩) (fun id z => by
          obtain rfl : nx + 23 = id := by simpa using z
          refine ⟨by omega, fun z => by have := s8 _ z; omega, fun j hj hok hne z => ?_⟩
          have := ((B.row j hj hok).in z).2; omega)
        rw [if_pos ⟨by omega, by omega⟩]
        have p1 := fun {R : Type} (K : ABlk → Option R) => p1 K
        dsimp only at p1
        rw [p1, ifApart_pos aa, wsucc (by omega), show (hol g n i).length + 1 = (hol g n (i + 1)).length from by rw [hs]; simp, ← hEa]
        refine ih f (i + 1) (fun j => if j = i then (some (nx + 23, 0), true) else q j) Ea E.c _ (nx + 29) (by omega) (by omega) ⟨by omega, fun j hj => ?_⟩ ?_ ?_ (fun j z => by have := s8 j z; omega) ?_
        · rw [put_ne (by omega), put_ne (by omega), s7.2 j hj]
        · exact (p2.ext (nx' := nx + 29) ⟨by omega, fun _ _ => rfl⟩ (fun _ _ q => q)).congr (fun j _ => okA_set (.inr hin) j) (fun _ _ _ => rfl)
        · rw [hs]
          exact s5.go (D := fun i => i = ob ∨ nx + 22 ≤ i) ⟨by omega, fun j hj hne => by rw [put_ne (fun z => hne (.inl z)), put_ne (by omega)]⟩ (fun j z zz => by have := s8 j z; omega) (fun _ _ q => q)
        · intro k hk hkn hgk
          by_cases ek : k = i
          · subst ek; exact ⟨nx + 23, by simp⟩
          · simp only [if_neg ek]; exact hq k (by omega) hkn hgk
      · -- a parity column that is lost
        rw [if_neg (by simpa using hin), wsucc (by omega)]
        have hs := hol_succ g n i
        rw [if_neg (by omega)] at hs
        rw [← hs]
        exact ih f (i + 1) q ha hc h (nx + 18) (by omega) (by omega) (x.le (by omega)) ((B.ext (nx' := nx + 18) ⟨by omega, fun _ _ => rfl⟩ (fun _ _ q => q)).congr (fun j _ => okA_skip hg (by omega) j) (fun _ _ _ => rfl)) (by rw [hs]; exact o.go (D := fun _ => False) ⟨by omega, fun _ _ _ => rfl⟩ (fun _ _ q => q) (fun _ _ q => q)) lh (fun k hk hkn hgk => hq k (by omega) hkn hgk)
    · -- a column that is left
      have hg : g i = false := by simpa using hg
      rw [hg, if_not_false']
      obtain ⟨k1, k2, k3⟩ := tk i hi hg
      rw [k1]
      obtain ⟨r, h1, n1, e1, r1, x1⟩ := bclone_spec (f := k0) (by omega) k2 (by omega) (P i).2.2 ((k3.ext x).ext (nx' := nx + 18) ⟨by omega, fun _ _ => rfl⟩)
      have y1 := x1.1
      have hs := hol_succ g n i
      rw [if_neg (by simp [hg])] at hs
      have ob1 := B.b1
      have B1 := B.ext (nx' := n1) ⟨by omega, fun j hj => x1.2 j (by omega)⟩ (X' := ownOf ha) (fun _ _ q => q)
      have hD : newD g M n w i = colD M n w i := by unfold newD; rw [if_neg (by simp [hg])]
      obtain ⟨p1, p2⟩ := B1.set hi (r := r) (by
        rw [hD]
        exact ⟨r1.1, r1.2.imp (fun z => z) fun ⟨id, z1, z2, z3, z4⟩ => ⟨id, z1, by omega, z3, z4⟩⟩) (fun id z => by
        have := (r1.in z).1
        refine ⟨by omega, fun z => by have := hlt _ z; omega, fun j hj hok hne z => ?_⟩
        have := ((B.row j hj hok).in z).2; omega)
      rw [e1]
      simp only [bind_some', asI_int, asB_bool, asStr_str, asP_ptr, asSl_sl, asAgg_1, asAgg_2, asAgg_3, asAgg_4, asTup_0, asTup_2, asTup_3, asTup_4, if_true', if_false', if_not_true', if_not_false', getD_0, getD_1, getD_2, getD_3]
      rw [if_pos ⟨by omega, by omega⟩, p1, wsucc (by omega), ← hs]
      refine ih f (i + 1) (fun j => if j = i then r else q j) ha hc _ (n1 + 2) (by omega) (by omega) ⟨by omega, fun j hj => ?_⟩ ?_ ?_ lh ?_
      · rw [put_ne (by omega), x1.2 j (by omega), x.2 j hj]
      · exact (p2.ext (nx' := n1 + 2) ⟨by omega, fun _ _ => rfl⟩ (fun _ _ q => q)).congr (fun j _ => okA_set (.inl hg) j) (fun _ _ _ => rfl)
      · rw [hs]
        exact o.go (D := fun i => i = ob) ⟨by omega, fun j hj hne => by rw [put_ne hne, x1.2 j (by omega)]⟩ (fun j z zz => by subst zz; exact B.bx z) (fun _ _ q => q)
      · intro k hk hkn hgk
        have ek : k ≠ i := fun z => by subst z; rw [hg] at hgk; cases hgk
        simp only [if_neg ek]; exact hq k (by omega) hkn hgk

end Go.Proofs.Ytdfopcgfhjijgaa.T
