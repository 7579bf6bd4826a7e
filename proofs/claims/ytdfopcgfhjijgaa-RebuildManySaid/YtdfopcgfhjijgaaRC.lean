import Derived.Test.YtdfopcgfhjijgaaRB
set_option linter.unusedVariables false
set_option linter.unusedSimpArgs false
namespace Go.Proofs.Ytdfopcgfhjijgaa.T
open Go Go.RowKit Go.Proofs

def surv (g : Nat → Bool) (n c : Nat) : List Nat := (List.range c).filter fun u => !g (n + u)
theorem surv_succ (g : Nat → Bool) (n c : Nat) : surv g n (c + 1) = if g (n + c) then surv g n c else surv g n c ++ [c] := by
  unfold surv
  rw [List.range_succ, List.filter_append]
  by_cases h : g (n + c) = true
  · simp [h]
  · simp [h]
theorem surv_le (g : Nat → Bool) (n c : Nat) : (surv g n c).length ≤ c := by
  have := List.length_filter_le (fun u => !g (n + u)) (List.range c)
  simpa [surv] using this
theorem surv_mem {g : Nat → Bool} {n c u : Nat} (h : u ∈ surv g n c) : u < c ∧ g (n + u) = false := by
  obtain ⟨h1, h2⟩ := List.mem_filter.1 h
  exact ⟨List.mem_range.1 h1, by simpa using h2⟩
theorem surv_pw (g : Nat → Bool) (n c : Nat) : (surv g n c).Pairwise (· < ·) := List.Pairwise.filter _ List.pairwise_lt_range

def hu (ha ua : Option (Nat × Nat)) : Nat → Prop := fun i => ownOf ha i ∨ ownOf ua i

/-- Parity columns are chosen. -/
theorem reb_used {k0 : Nat} (lf : Nat) {g : Nat → Bool} {M : List (List Nat)} {w n p N t : Nat} (hN : N = n + p) (hN2 : N ≤ 256) {a ga : Option (Nat × Nat)} (c gc oc : Bool) {h0 : AHeap} {lo : Nat} (sg : Sl h0 lo ga N 1 (bls g N)) {ob : Nat} {q : Nat → Rw} {hs : List Nat} (hh : hs.length = t) (enough : t ≤ (surv g n p).length) {ha : Option (Nat × Nat)} (hc : Bool) (m : Nat) :
    ∀ (f i : Nat) (ua : Option (Nat × Nat)) (uc : Bool) (h : AHeap) (nx : Nat), i + m = p → m < f → (surv g n i).length ≤ t → Ext h0 lo h nx → Bld h lo nx ob w N (okA g n N) q (newD g M n w) (hu ha ua) → OwnRows NRow h nx ha 1 hs → OwnRows NRow h nx ua 1 (surv g n i) → (∀ i, ownOf ha i → lo ≤ i) → (∀ i, ownOf ua i → lo ≤ i) → (∀ i, ownOf ua i → ¬ ownOf ha i) →
    ∃ (j : Nat) (ua' : Option (Nat × Nat)) (uc' : Bool) (h' : AHeap) (nx' : Nat), F56_L2 (callP Try.prog keepT k0) Y0 lf f a N c (n : Int) ga N gc (some (ob, 0)) N oc ha t hc ua (surv g n i).length uc ((n + i : Nat) : Int) h nx =
        F56_J4 (callP Try.prog keepT k0) Y0 lf a N c (n : Int) ga N gc (some (ob, 0)) N oc ha t hc ua' t uc' h' nx' ∧ j ≤ p ∧ (surv g n j).length = t ∧ Ext h0 lo h' nx' ∧ Bld h' lo nx' ob w N (okA g n N) q (newD g M n w) (hu ha ua') ∧ OwnRows NRow h' nx' ha 1 hs ∧ OwnRows NRow h' nx' ua' 1 (surv g n j) := by
  induction m with
  | zero =>
    intro f i ua uc h nx e hf hle x B oh ou lh lu dj
    obtain ⟨f, rfl⟩ : ∃ m, f = m + 1 := ⟨f - 1, by omega⟩
    obtain rfl : i = p := by omega
    rw [F56_L2_eq, if_neg (by simp; omega)]
    have : (surv g n i).length = t := by omega
    rw [this]
    exact ⟨i, ua, uc, h, nx + 11, rfl, by omega, this, x.le (by omega), B.ext ⟨by omega, fun _ _ => rfl⟩ (fun _ _ q => q), oh.go (D := fun _ => False) ⟨by omega, fun _ _ _ => rfl⟩ (fun _ _ q => q) (fun _ _ q => q), ou.go (D := fun _ => False) ⟨by omega, fun _ _ _ => rfl⟩ (fun _ _ q => q) (fun _ _ q => q)⟩
  | succ m ih =>
    intro f i ua uc h nx e hf hle x B oh ou lh lu dj
    obtain ⟨f, rfl⟩ : ∃ m, f = m + 1 := ⟨f - 1, by omega⟩
    have y := x.1
    rw [F56_L2_eq, if_pos (by simp; omega)]
    by_cases ht : (surv g n i).length = t
    · rw [ht, if_neg (by simp)]
      exact ⟨i, ua, uc, h, nx + 11, rfl, by omega, ht, x.le (by omega), B.ext ⟨by omega, fun _ _ => rfl⟩ (fun _ _ q => q), oh.go (D := fun _ => False) ⟨by omega, fun _ _ _ => rfl⟩ (fun _ _ q => q) (fun _ _ q => q), ou.go (D := fun _ => False) ⟨by omega, fun _ _ _ => rfl⟩ (fun _ _ q => q) (fun _ _ q => q)⟩
    · rw [if_pos (by simp; omega), F56_J3_eq, ((sg.ext x).ext (nx' := nx + 11) ⟨by omega, fun _ _ => rfl⟩).readB (by omega)]
      simp only [bind_some', asI_int, asB_bool, asStr_str, asP_ptr, asSl_sl, asAgg_1, asAgg_2, asAgg_3, asAgg_4, asTup_0, asTup_2, asTup_3, asTup_4, if_true', if_false', if_not_true', if_not_false', getD_0, getD_1, getD_2, getD_3]
      have ss := surv_succ g n i
      by_cases hg : g (n + i) = true
      · rw [if_pos hg] at ss
        rw [hg, if_not_true', wsucc (by omega), Nat.add_assoc, ← ss]
        exact ih f (i + 1) ua uc h (nx + 11 + 8) (by omega) (by omega) (by rw [ss]; exact hle) (x.le (by omega)) (B.ext ⟨by omega, fun _ _ => rfl⟩ (fun _ _ q => q)) (oh.go (D := fun _ => False) ⟨by omega, fun _ _ _ => rfl⟩ (fun _ _ q => q) (fun _ _ q => q)) (by rw [ss]; exact ou.go (D := fun _ => False) ⟨by omega, fun _ _ _ => rfl⟩ (fun _ _ q => q) (fun _ _ q => q)) lh lu dj
      · have hg : g (n + i) = false := by simpa using hg
        rw [if_neg (by simp [hg])] at ss
        have sl := surv_le g n i
        obtain ⟨E, s1, s2, s3, s4, s5, s6, s7, s8, _⟩ := ou.pushE x lu uc (bytes := 8) (id := nx + 11 + 9) (id2 := nx + 11 + 10) (x := i) (r := [AV.int .i64 (i : Int)]) rfl rfl (growOk_of (by omega) (by omega)) (by omega) (by omega)
        rw [hg, if_not_false', show wrapA .i64 (((n + i : Nat) : Int) - (n : Int)) = (i : Int) from by rw [wA (by omega) (by omega)]; omega]
        rw [s1, some_bind, s2, some_bind, s4, wsucc (by omega), Nat.add_assoc, show (surv g n i).length + 1 = (surv g n (i + 1)).length from by rw [ss]; simp]
        have hlt := oh.lt
        have f6 : Frm (ownOf ua) h nx ((h.put (nx + 11 + 9) (some ⟨[AV.int .i64 (i : Int)], 1, true⟩)).puts E.sets) (nx + 11 + 15) := s6.le (by omega)
        refine ih f (i + 1) E.a E.c _ (nx + 11 + 15) (by omega) (by omega) (by rw [ss]; simp; omega) (s7.le (by omega)) (B.go f6 (fun _ _ z => .inr z) fun j hj z => ?_) (oh.go f6 (fun j z zz => dj j zz z) (fun _ _ q => q)) ?_ lh (fun j z => by have := s8 j z; omega) (fun j z zz => by have := s8 j z; have := hlt j zz; omega)
        · rcases z with z | z
          · exact .inl z
          · have := s8 j z; omega
        · rw [ss]
          exact s5.go (D := fun _ => False) ⟨by omega, fun _ _ _ => rfl⟩ (fun _ _ q => q) (fun _ _ q => q)

def okB (g : Nat → Bool) (n i j : Nat) : Bool := decide (j < n) || !g j || decide (j < i)
theorem okB_iff (g : Nat → Bool) (n i j : Nat) : okB g n i j = true ↔ j < n ∨ g j = false ∨ j < i := by simp [okB, or_assoc]
theorem okB_set {g : Nat → Bool} {n i : Nat} (j : Nat) : (j == i || okB g n i j) = okB g n (i + 1) j := by
  rw [Bool.eq_iff_iff, Bool.or_eq_true, okB_iff, okB_iff, beq_iff_eq]
  constructor
  · rintro (rfl | a | a | a)
    · exact .inr (.inr (by omega))
    · exact .inl a
    · exact .inr (.inl a)
    · exact .inr (.inr (by omega))
  · rintro (a | a | a)
    · exact .inr (.inl a)
    · exact .inr (.inr (.inl a))
    · by_cases e : j = i
      · exact .inl e
      · exact .inr (.inr (.inr (by omega)))
theorem okB_skip {g : Nat → Bool} {n i : Nat} (h : g i = false) (j : Nat) : okB g n i j = okB g n (i + 1) j := by
  rw [Bool.eq_iff_iff, okB_iff, okB_iff]
  constructor
  · rintro (a | a | a)
    · exact .inl a
    · exact .inr (.inl a)
    · exact .inr (.inr (by omega))
  · rintro (a | a | a)
    · exact .inl a
    · exact .inr (.inl a)
    · by_cases e : j = i
      · subst e; exact .inr (.inl h)
      · exact .inr (.inr (by omega))

theorem colD_map {M : List (List Nat)} {n p w : Nat} (hn : M.length = n) : (List.range (n + p)).map (colD M n w) = M ++ encs M w p := by
  apply List.ext_getElem
  · simp [encs, hn]
  · intro i h1 h2
    simp only [List.getElem_map, List.getElem_range]
    unfold colD
    by_cases h : i < n
    · rw [if_pos h, List.getElem_append_left (by omega), getD_at (by omega)]
    · rw [if_neg h, List.getElem_append_right (by omega)]
      simp [encs, hn]

/-- The lost parity columns are computed again. -/
theorem reb_last {k0 : Nat} (hk0 : 5010 ≤ k0) (lf : Nat) {g : Nat → Bool} {M : List (List Nat)} {w n p N : Nat} (hn : M.length = n) (hn1 : 1 ≤ n) (hN : N = n + p) (hp : p ≤ 16) (hN2 : N ≤ 256) (hw : w ≤ 4096) (sM : SmallM M) {a ga : Option (Nat × Nat)} (c gc oc : Bool) {h0 : AHeap} {lo : Nat} (sg : Sl h0 lo ga N 1 (bls g N)) {ob : Nat} (m : Nat) :
    ∀ (f i : Nat) (q : Nat → Rw) (h : AHeap) (nx : Nat), i + m = p → m < f → Ext h0 lo h nx → Bld h lo nx ob w N (okB g n (n + i)) q (colD M n w) (fun _ => False) →
    ∃ (q' : Nat → Rw) (h' : AHeap) (nx' : Nat), F56_L5 (callP Try.prog keepT k0) Y0 lf f a N c (n : Int) ga N gc (some (ob, 0)) N oc ((n + i : Nat) : Int) h nx = some (.slice (some (ob, 0)) N oc, h', nx') ∧ Ext h0 lo h' nx' ∧ Bld h' lo nx' ob w N (okB g n N) q' (colD M n w) (fun _ => False) := by
  induction m with
  | zero =>
    intro f i q h nx e hf x B
    obtain ⟨f, rfl⟩ : ∃ m, f = m + 1 := ⟨f - 1, by omega⟩
    obtain rfl : i = p := by omega
    rw [F56_L5_eq, if_neg (by simp; omega)]
    rw [← hN] at B
    exact ⟨q, h, nx + 6, rfl, x.le (by omega), B.ext ⟨by omega, fun _ _ => rfl⟩ (fun _ _ q => q)⟩
  | succ m ih =>
    intro f i q h nx e hf x B
    obtain ⟨f, rfl⟩ : ∃ m, f = m + 1 := ⟨f - 1, by omega⟩
    have y := x.1
    rw [F56_L5_eq, if_pos (by simp; omega), (sg.ext x).readB (by omega)]
    simp only [bind_some', asI_int, asB_bool, asStr_str, asP_ptr, asSl_sl, asAgg_1, asAgg_2, asAgg_3, asAgg_4, asTup_0, asTup_2, asTup_3, asTup_4, if_true', if_false', if_not_true', if_not_false', getD_0, getD_1, getD_2, getD_3]
    by_cases hg : g (n + i) = true
    · rw [if_pos hg, show wrapA .i64 (((n + i : Nat) : Int) - (n : Int)) = (i : Int) from by rw [wA (by omega) (by omega)]; omega, wsucc (by omega), Nat.add_assoc]
      obtain ⟨cp, cc, c1, c2⟩ := B.cut (m := n) (by omega) (fun k hk => (okB_iff _ _ _ _).2 (.inl hk)) oc
      have hm : (List.range n).map (colD M n w) = M := by
        have := colD_map (p := 0) (w := w) hn
        rw [Nat.add_zero] at this
        rw [this]; simp [encs]
      rw [hm] at c2
      obtain ⟨id, h1, n1, e1, i0, i1, ib, x1⟩ := enc_spec (f := k0) (by omega) i (by omega) (M := M) (w := w) (by omega) (by omega) hw sM cc (c2.ext (nx' := nx + 19) ⟨by omega, fun _ _ => rfl⟩)
      rw [hn] at e1
      have y1 := x1.1
      have ob1 := B.b1
      have b0 := B.b0
      have B1 := B.ext (nx' := n1) ⟨by omega, fun j hj => x1.2 j (by omega)⟩ (X' := fun _ => False) (fun _ _ q => q)
      have hD : colD M n w (n + i) = enc M i w := by unfold colD; rw [if_neg (by omega)]; congr 1; omega
      obtain ⟨p1, p2⟩ := B1.set (k := n + i) (by omega) (r := (some (id, 0), true)) (by
        rw [hD]
        exact ⟨enc_len _ _ _, .inr ⟨id, rfl, by omega, by omega, ib⟩⟩) (fun id' z => by
        obtain rfl : id = id' := by simpa using z
        refine ⟨by omega, fun z => z, fun j hj hok hne z => ?_⟩
        have := ((B.row j hj hok).in z).2; omega)
      have p1 := fun {R : Type} (K : ABlk → Option R) => p1 K
      dsimp only at p1
      rw [c1, some_bind]
      dsimp only
      rw [e1]
      simp only [bind_some', asI_int, asB_bool, asStr_str, asP_ptr, asSl_sl, asAgg_1, asAgg_2, asAgg_3, asAgg_4, asTup_0, asTup_2, asTup_3, asTup_4, if_true', if_false', if_not_true', if_not_false', getD_0, getD_1, getD_2, getD_3]
      rw [if_pos ⟨by omega, by omega⟩, p1]
      refine ih f (i + 1) (fun j => if j = n + i then (some (id, 0), true) else q j) _ (n1 + 3) (by omega) (by omega) ⟨by omega, fun j hj => ?_⟩ ?_
      · rw [put_ne (by omega), x1.2 j (by omega), x.2 j hj]
      · exact (p2.ext (nx' := n1 + 3) ⟨by omega, fun _ _ => rfl⟩ (fun _ _ q => q)).congr (fun j _ => okB_set j) (fun _ _ _ => rfl)
    · have hg : g (n + i) = false := by simpa using hg
      rw [if_neg (by simp [hg]), wsucc (by omega), Nat.add_assoc]
      exact ih f (i + 1) q h (nx + 11) (by omega) (by omega) (x.le (by omega)) ((B.ext (nx' := nx + 11) ⟨by omega, fun _ _ => rfl⟩ (fun _ _ q => q)).congr (fun j _ => okB_skip hg j) (fun _ _ _ => rfl))

end Go.Proofs.Ytdfopcgfhjijgaa.T

namespace Go.Proofs.Ytdfopcgfhjijgaa.T
open Go Go.RowKit Go.Proofs

theorem rebuilt_spec {f : Nat} (hf : 5300 ≤ f) {g : Nat → Bool} {M : List (List Nat)} {w n p N : Nat} (hn : M.length = n) (hn1 : 1 ≤ n) (hn12 : n ≤ 12) (hp3 : p ≤ 3) (hN : N = n + p) (hM : ∀ r ∈ M, r.length = w) (sM : SmallM M) (hw : w ≤ 4096)
    {a ga : Option (Nat × Nat)} (c gc : Bool) {h : AHeap} {nx : Nat} (t : Torn h nx a N g w (colD M n w)) (sg : Sl h nx ga N 1 (bls g N)) (enough : ((List.range n).filter g).length ≤ (surv g n p).length) (kp : 1 ≤ (kept g N).length) :
    ∃ ob oc h' nx', callP Try.prog keepT f Y0 56 [.slice a N c, .int .i64 (n : Int), .slice ga N gc] h nx = some (.slice (some (ob, 0)) N oc, h', nx') ∧ Ext h nx h' nx' ∧ Mat h' nx' .u8 (some (ob, 0)) (M ++ encs M w p) w := by
  obtain ⟨f, rfl⟩ : ∃ m, f = m + 1 := ⟨f - 1, by omega⟩
  obtain ⟨la, lc, h1, n1, e1, x1, m1⟩ := left_spec (f := f) (by omega) c gc (by omega) (t.ext (nx' := nx + 8) ⟨by omega, fun _ _ => rfl⟩) (sg.ext (nx' := nx + 8) ⟨by omega, fun _ _ => rfl⟩)
  have y1 := x1.1
  obtain ⟨q0, q1, q2, q3⟩ := m1.row (R := AV × AHeap × Nat) (i := 0) (by rw [List.length_map]; omega)
  rw [List.length_map, show ((0 : Nat) : Int) = 0 from rfl] at q3
  rw [F56_eq, e1]
  simp only [bind_some', asI_int, asB_bool, asStr_str, asP_ptr, asSl_sl, asAgg_1, asAgg_2, asAgg_3, asAgg_4, asTup_0, asTup_2, asTup_3, asTup_4, if_true', if_false', if_not_true', if_not_false', getD_0, getD_1, getD_2, getD_3]
  rw [q3]
  simp only [bind_some', asI_int, asB_bool, asStr_str, asP_ptr, asSl_sl, asAgg_1, asAgg_2, asAgg_3, asAgg_4, asTup_0, asTup_2, asTup_3, asTup_4, if_true', if_false', if_not_true', if_not_false', getD_0, getD_1, getD_2, getD_3]
  rw [if_pos (by simp; omega)]
  have hz : madeA [AV.slice none 0 false] (Int.toNat ((N : Nat) : Int) * 1) = outCells w N (fun _ => false) (fun _ => (none, false)) := by
    rw [Int.toNat_natCast, Nat.mul_one]; exact outCells_zero _ _ _
  rw [hz, show Int.toNat ((N : Nat) : Int) = N from Int.toNat_natCast N, show (((N : Nat) : Int) == ((N : Nat) : Int)) = true from by simp]
  obtain ⟨H, hH⟩ : ∃ H, H = h1.put (n1 + 2) (some ⟨outCells w N (fun _ => false) (fun _ => (none, false)), 1, true⟩) := ⟨_, rfl⟩
  have x2 : Ext h nx H (n1 + 9) := ⟨by omega, fun j hj => by rw [hH, put_ne (by omega), x1.2 j (by omega)]⟩
  have B0 : Bld H nx (n1 + 9) (n1 + 2) w N (fun _ => false) (fun _ => (none, false)) (newD g M n w) (ownOf none) := Bld.new (by rw [hH]; exact put_same _ _ _) (by omega) (by omega) (fun ⟨_, z⟩ => by cases z) _
  rw [← hH]
  obtain ⟨q', ha, hc, h3, n3, e3, x3, B3, o3, l3, t3⟩ := reb_first (k0 := f) (by omega) f (n := n) (by omega) hw c gc true t sg (ob := n1 + 2) (by omega) N f 0 (fun _ => (none, false)) none false H (n1 + 9) (by omega) (by omega) x2 (B0.congr (fun j _ => by simp [okA]) (fun _ _ _ => rfl)) (OwnRows.nil _ _ _ _) (fun i ⟨_, z⟩ => by cases z) (fun k hk => by omega)
  rw [show ((0 : Nat) : Int) = 0 from rfl] at e3
  change F56_L1 _ _ _ _ _ _ _ _ _ _ _ _ _ _ _ none 0 false none 0 false _ _ _ _ 0 _ _ = _ at e3
  rw [e3]
  have hh : hol g n N = (List.range n).filter g := hol_all g (by omega)
  rw [hh] at o3 ⊢
  obtain ⟨hs, hhs⟩ : ∃ hs, hs = (List.range n).filter g := ⟨_, rfl⟩
  rw [← hhs] at o3 enough ⊢
  obtain ⟨tt, ht⟩ : ∃ tt, hs.length = tt := ⟨_, rfl⟩
  rw [ht] at enough ⊢
  obtain ⟨j, ua, uc, h4, n4, e4, jp, jt, x4, B4, oh4, ou4⟩ := reb_used (k0 := f) f hN (by omega) c gc true sg ht enough (ha := ha) hc p f 0 none false h3 n3 (by omega) (by omega) (by simp [surv]) x3 (a := a) (B3.go (Y := fun _ => False) ⟨Nat.le_refl _, fun _ _ _ => rfl⟩ (fun _ _ q => q.elim) fun i _ z => by
    rcases z with z | ⟨_, z⟩
    · exact z
    · cases z) o3 (OwnRows.nil _ _ _ _) l3 (fun i ⟨_, z⟩ => by cases z) (fun i ⟨_, z⟩ => by cases z)
  change F56_L2 _ _ _ _ _ _ _ _ _ _ _ _ _ _ _ _ _ none 0 false ((n : Nat) : Int) _ _ = _ at e4
  rw [e4, F56_J4_eq]
  have hk : ∀ k, k < n → okA g n N k = true := fun k hk => (okA_iff _ _ _ _).2 ⟨by omega, .inr hk⟩
  have sp := surv_pw g n j
  obtain ⟨h5, n5, e5, f5, B5⟩ := fill_spec (f := f) (by omega) hn hn1 hn12 (N := N) (by omega) (by omega) hM sM hw (us := surv g n j) (hs := hs) jt ht hhs sp (fun u hu => by have := (surv_mem hu).1; omega) (fun u hu => by have := (surv_mem hu).1; omega) (by
      have := surv_le g n j; omega) hc uc true (h := h4) (nx := n4 + 5) (B4.ext (nx' := n4 + 5) ⟨by omega, fun _ _ => rfl⟩ (fun _ _ q => q)) hk
    (fun u hu => (okA_iff _ _ _ _).2 ⟨by have := (surv_mem hu).1; omega, .inl (surv_mem hu).2⟩) (fun k hk hg => t3 k (by omega) hk hg) (fun k hk => by unfold newD colD; rw [if_pos hk]) (fun u hu => by
      unfold newD colD
      rw [if_neg (by simp [(surv_mem hu).2]), if_neg (by omega)]; congr 1; omega)
    ((NRow.sl oh4 ht).ext (nx' := n4 + 5) ⟨by omega, fun _ _ => rfl⟩) ((NRow.sl ou4 jt).ext (nx' := n4 + 5) ⟨by omega, fun _ _ => rfl⟩) (fun i z => .inl z)
  have y5 := f5.1
  have y4 := x4.1
  rw [e5]
  simp only [bind_some', asI_int, asB_bool, asStr_str, asP_ptr, asSl_sl, asAgg_1, asAgg_2, asAgg_3, asAgg_4, asTup_0, asTup_2, asTup_3, asTup_4, if_true', if_false', if_not_true', if_not_false', getD_0, getD_1, getD_2, getD_3]
  obtain ⟨q6, h6, n6, e6, x6, B6⟩ := reb_last (k0 := f) (by omega) f hn hn1 hN (by omega) (by omega) hw sM (a := a) c gc true sg p f 0 q' h5 (n5 + 2) (by omega) (by omega) ⟨by omega, fun i hi => by rw [f5.2 i (by omega) (fun z => by omega), x4.2 i hi]⟩
    ((B5.ext (nx' := n5 + 2) ⟨by omega, fun _ _ => rfl⟩ (X' := fun _ => False) (fun _ _ q => q.elim)).congr (fun k hk => by
      rw [Bool.eq_iff_iff, okA_iff, okB_iff]
      constructor
      · rintro ⟨_, z | z⟩
        · exact .inr (.inl z)
        · exact .inl z
      · rintro (z | z | z)
        · exact ⟨by omega, .inr z⟩
        · exact ⟨by omega, .inl z⟩
        · exact ⟨by omega, .inr (by omega)⟩) fun k hk hok => by
      unfold newD colD
      by_cases z : k < n
      · simp only [if_pos z]
      · simp only [if_neg z]
        rcases (okB_iff _ _ _ _).1 hok with q | q | q
        · omega
        · rw [if_neg (by simp [q])]
        · omega)
  rw [show ((n + 0 : Nat) : Int) = (n : Int) from rfl] at e6
  rw [e6]
  refine ⟨n1 + 2, true, h6, n6, rfl, x6, ?_⟩
  have := B6.all fun k hk => (okB_iff _ _ _ _).2 (.inr (.inr hk))
  have cm := colD_map (p := p) (w := w) hn
  rw [← hN] at cm
  rw [cm] at this
  exact this

end Go.Proofs.Ytdfopcgfhjijgaa.T

namespace Go.Proofs.Ytdfopcgfhjijgaa.T
open Go Go.RowKit Go.Proofs

/-! ### counts -/
def cnt (g : Nat → Bool) (n : Nat) : Nat := ((List.range n).filter g).length
theorem cnt_succ (g : Nat → Bool) (n : Nat) : cnt g (n + 1) = cnt g n + if g n then 1 else 0 := by
  unfold cnt
  rw [List.range_succ, List.filter_append, List.length_append]
  by_cases h : g n = true
  · simp [h]
  · simp [h]
theorem cnt_le (g : Nat → Bool) (n : Nat) : cnt g n ≤ n := by
  have := List.length_filter_le g (List.range n)
  simpa [cnt] using this
theorem cnt_set {g : Nat → Bool} {k : Nat} (hk : g k = false) (n : Nat) : cnt (fun j => j == k || g j) n = cnt g n + if k < n then 1 else 0 := by
  induction n with
  | zero => simp [cnt]
  | succ n ih =>
    rw [cnt_succ, cnt_succ, ih]
    by_cases e : n = k
    · subst e; simp [hk]
    · have e2 : (n == k) = false := by simpa using e
      rw [e2, Bool.false_or]
      by_cases l : k < n
      · rw [if_pos l, if_pos (show k < n + 1 by omega)]; omega
      · rw [if_neg l, if_neg (show ¬ k < n + 1 by omega)]; omega
theorem cnt_surv (g : Nat → Bool) (n p : Nat) : cnt g (n + p) + (surv g n p).length = cnt g n + p := by
  induction p with
  | zero => simp [surv]
  | succ p ih =>
    rw [← Nat.add_assoc, cnt_succ, surv_succ]
    by_cases h : g (n + p) = true
    · rw [if_pos h, if_pos h]; omega
    · rw [if_neg h, if_neg h, List.length_append]; simp only [List.length_cons, List.length_nil]; omega
theorem cnt_kept (g : Nat → Bool) (n : Nat) : cnt g n + (kept g n).length = n := by
  induction n with
  | zero => simp [cnt, kept]
  | succ n ih =>
    rw [cnt_succ, kept_succ]
    by_cases h : g n = true
    · rw [if_pos h, if_pos h]; omega
    · rw [if_neg h, if_neg h, List.length_append]; simp only [List.length_cons, List.length_nil]; omega

/-! ### Several -/
theorem sev_loop {k0 : Nat} (hk0 : 2 ≤ k0) (lf : Nat) {l : List Int} (hl : l.length ≤ 1000000000000000) {a : Option (Nat × Nat)} (c hcl : Bool) {most n : Nat} (hm : most ≤ 1000) (hn1 : 1 ≤ n) (hn : n ≤ 256) {h0 : AHeap} {n0 id : Nat} (sl : Sl h0 n0 a l.length 1 (ints .i64 l)) (hid : n0 ≤ id) (m : Nat) :
    ∀ (f i : Nat) (g : Nat → Bool) (h : AHeap) (nx : Nat), i + m = l.length → m < f → id < nx → Ext h0 n0 h nx → h id = some ⟨bls g n, 1, true⟩ → cnt g n ≤ most → (∀ j (hj : j < i) (hjl : j < l.length), g (l[j] % (n : Int)).toNat = true) →
    ∃ (g' : Nat → Bool) (h' : AHeap) (nx' : Nat), F35_L1 (callP Try.prog keepT k0) Y0 lf f a l.length c (most : Int) (n : Int) (some (id, 0)) n hcl ((cnt g n : Nat) : Int) (i : Int) h nx = F35_J3 (callP Try.prog keepT k0) Y0 lf (n : Int) (some (id, 0)) n hcl h' nx' ∧ id < nx' ∧ Ext h0 n0 h' nx' ∧ h' id = some ⟨bls g' n, 1, true⟩ ∧ cnt g' n ≤ most ∧ (cnt g' n = most ∨ ∀ j (hjl : j < l.length), g' (l[j] % (n : Int)).toNat = true) := by
  induction m with
  | zero =>
    intro f i g h nx e hf hlt x hb hc hs
    obtain ⟨f, rfl⟩ : ∃ m, f = m + 1 := ⟨f - 1, by omega⟩
    obtain rfl : i = l.length := by omega
    rw [F35_L1_eq, if_neg (by simp)]
    exact ⟨g, h, nx + 9, rfl, by omega, x.le (by omega), hb, hc, .inr fun j hj => hs j hj hj⟩
  | succ m ih =>
    intro f i g h nx e hf hlt x hb hc hs
    obtain ⟨f, rfl⟩ : ∃ m, f = m + 1 := ⟨f - 1, by omega⟩
    have hi : i < l.length := by omega
    have y := x.1
    rw [F35_L1_eq, if_pos (by simpa using hi)]
    by_cases hcm : cnt g n = most
    · rw [hcm, if_neg (by simp)]
      exact ⟨g, h, nx + 9, rfl, by omega, x.le (by omega), hb, hc, .inl hcm⟩
    · have hcnt := cnt_le g n
      obtain ⟨n1, e1, l1⟩ := picked_spec (k := k0) (by omega) l[i] (n : Int) h (nx + 9 + 7) (by omega) (by omega)
      obtain ⟨k, hk⟩ : ∃ k : Nat, l[i] % (n : Int) = (k : Int) := ⟨(l[i] % (n : Int)).toNat, by have := Int.emod_nonneg l[i] (b := (n : Int)) (by omega); omega⟩
      have hkn : k < n := by have := Int.emod_lt_of_pos l[i] (b := (n : Int)) (by omega); omega
      rw [if_pos (by simp; omega), F35_J2_eq, (sl.ext x).readI hi]
      simp only [bind_some', asI_int, asB_bool, asStr_str, asP_ptr, asSl_sl, asAgg_1, asAgg_2, asAgg_3, asAgg_4, asTup_0, asTup_2, asTup_3, asTup_4, if_true', if_false', if_not_true', if_not_false', getD_0, getD_1, getD_2, getD_3]
      rw [e1, hk]
      simp only [bind_some', asI_int, asB_bool, asStr_str, asP_ptr, asSl_sl, asAgg_1, asAgg_2, asAgg_3, asAgg_4, asTup_0, asTup_2, asTup_3, asTup_4, if_true', if_false', if_not_true', if_not_false', getD_0, getD_1, getD_2, getD_3]
      rw [if_pos ⟨by omega, by omega⟩, show 0 + Int.toNat (k : Int) * 1 = k from by omega, ld_at hb (bls_get g hkn)]
      simp only [bind_some', asI_int, asB_bool, asStr_str, asP_ptr, asSl_sl, asAgg_1, asAgg_2, asAgg_3, asAgg_4, asTup_0, asTup_2, asTup_3, asTup_4, if_true', if_false', if_not_true', if_not_false', getD_0, getD_1, getD_2, getD_3]
      by_cases hg : g k = true
      · rw [hg, if_not_true', wsucc (by omega)]
        refine ih f (i + 1) g h (n1 + 8) (by omega) (by omega) (by omega) (x.le (by omega)) hb hc fun j hj hjl => ?_
        by_cases ej : j = i
        · subst ej; rw [hk, Int.toNat_natCast]; exact hg
        · exact hs j (by omega) hjl
      · have hg : g k = false := by simpa using hg
        rw [hg, if_not_false']
        rw [if_pos ⟨by omega, by omega⟩, st_to hb rfl (by rw [bls_len]; exact hkn) bls_set]
        have hcs := cnt_set hg n
        rw [if_pos hkn] at hcs
        rw [wsucc (by omega), wsucc (by omega), ← hcs]
        refine ih f (i + 1) (fun j => j == k || g j) _ (n1 + 15) (by omega) (by omega) (by omega) ⟨by omega, fun j hj => by rw [put_ne (by omega), x.2 j hj]⟩ (put_same _ _ _) (by omega) fun j hj hjl => ?_
        by_cases ej : j = i
        · subst ej; rw [hk, Int.toNat_natCast]; simp
        · rw [hs j (by omega) hjl]; simp

theorem sev_out (call : YldF → CallF) (lf : Nat) {g : Nat → Bool} {n : Nat} (hn : n ≤ 256) {h0 : AHeap} {n0 : Nat} {ga : Option (Nat × Nat)} (gc : Bool) (sg : Sl h0 n0 ga n 1 (bls g n)) (m : Nat) :
    ∀ (f i : Nat) (oa : Option (Nat × Nat)) (oc : Bool) (h : AHeap) (nx : Nat), i + m = n → m < f → Ext h0 n0 h nx → OwnRows NRow h nx oa 1 ((List.range i).filter g) → (∀ i, ownOf oa i → n0 ≤ i) →
    ∃ oa' oc' h' nx', F35_L4 call Y0 lf f (n : Int) ga n gc oa (cnt g i) oc (i : Int) h nx = some (.slice oa' (cnt g n) oc', h', nx') ∧ Ext h0 n0 h' nx' ∧ OwnRows NRow h' nx' oa' 1 ((List.range n).filter g) := by
  induction m with
  | zero =>
    intro f i oa oc h nx e hf x o lo
    obtain ⟨f, rfl⟩ : ∃ m, f = m + 1 := ⟨f - 1, by omega⟩
    obtain rfl : i = n := by omega
    rw [F35_L4_eq, if_neg (by simp)]
    exact ⟨oa, oc, h, _, rfl, x.le (by omega), o.go (D := fun _ => False) ⟨by omega, fun _ _ _ => rfl⟩ (fun _ _ q => q) (fun _ _ q => q)⟩
  | succ m ih =>
    intro f i oa oc h nx e hf x o lo
    obtain ⟨f, rfl⟩ : ∃ m, f = m + 1 := ⟨f - 1, by omega⟩
    have hi : i < n := by omega
    have y := x.1
    have hcl := cnt_le g i
    have cs := cnt_succ g i
    have fs : (List.range (i + 1)).filter g = if g i = true then (List.range i).filter g ++ [i] else (List.range i).filter g := by
      rw [List.range_succ, List.filter_append]
      by_cases h : g i = true
      · simp [h]
      · simp [h]
    rw [F35_L4_eq, if_pos (by simpa using hi), (sg.ext x).readB hi]
    simp only [bind_some', asI_int, asB_bool, asStr_str, asP_ptr, asSl_sl, asAgg_1, asAgg_2, asAgg_3, asAgg_4, asTup_0, asTup_2, asTup_3, asTup_4, if_true', if_false', if_not_true', if_not_false', getD_0, getD_1, getD_2, getD_3]
    by_cases hg : g i = true
    · rw [if_pos hg] at cs fs
      obtain ⟨E, s1, s2, s3, s4, s5, s6, s7, s8, _⟩ := o.pushE x lo oc (bytes := 8) (id := nx + 9) (id2 := nx + 10) (x := i) (r := [AV.int .i64 (i : Int)]) rfl rfl (growOk_of (by change cnt g i + 1 ≤ _; omega) (by omega)) (by omega) (by omega)
      change appD _ _ (cnt g i) _ _ _ _ _ = _ at s2
      rw [if_pos hg, s1, some_bind, s2, some_bind, s4, wsucc (by omega)]
      change ∃ oa' oc' h' nx', F35_L4 call Y0 lf f (n : Int) ga n gc E.a (cnt g i + 1) E.c _ _ _ = _ ∧ _
      rw [← cs]
      refine ih f (i + 1) E.a E.c _ (nx + 15) (by omega) (by omega) (s7.le (by omega)) ?_ (fun j z => by have := s8 j z; omega)
      rw [fs]
      exact s5.go (D := fun _ => False) ⟨by omega, fun _ _ _ => rfl⟩ (fun _ _ q => q) (fun _ _ q => q)
    · rw [if_neg hg] at cs fs
      rw [if_neg hg, wsucc (by omega)]
      have cs : cnt g (i + 1) = cnt g i := cs
      rw [← cs]
      exact ih f (i + 1) oa oc h (nx + 10) (by omega) (by omega) (x.le (by omega)) (by rw [fs]; exact o.go (D := fun _ => False) ⟨by omega, fun _ _ _ => rfl⟩ (fun _ _ q => q) (fun _ _ q => q)) lo

theorem sev_spec {f : Nat} {l : List Int} (hf : 300 + l.length ≤ f) (hl : l.length ≤ 1000000000000000) {a : Option (Nat × Nat)} (c : Bool) {most n : Nat} (hm : most ≤ 1000) (hn1 : 1 ≤ n) (hn : n ≤ 256) {h : AHeap} {nx : Nat} (sl : Sl h nx a l.length 1 (ints .i64 l)) :
    ∃ (g : Nat → Bool) (oa : Option (Nat × Nat)) (oc : Bool) (h' : AHeap) (nx' : Nat), callP Try.prog keepT f Y0 35 [.slice a l.length c, .int .i64 (most : Int), .int .i64 (n : Int)] h nx = some (.slice oa (cnt g n) oc, h', nx') ∧ Ext h nx h' nx' ∧ OwnRows NRow h' nx' oa 1 ((List.range n).filter g) ∧ cnt g n ≤ most ∧ (cnt g n = most ∨ ∀ j (hjl : j < l.length), g (l[j] % (n : Int)).toNat = true) := by
  obtain ⟨f, rfl⟩ : ∃ m, f = m + 1 := ⟨f - 1, by omega⟩
  rw [F35_eq, if_pos (by simp; omega)]
  have hz : madeA [AV.bool false] (Int.toNat ((n : Nat) : Int) * 1) = bls (fun _ => false) n := by
    rw [Int.toNat_natCast, Nat.mul_one]; exact bls_false n
  rw [hz, show Int.toNat ((n : Nat) : Int) = n from Int.toNat_natCast n]
  have c0 : cnt (fun _ => false) n = 0 := by unfold cnt; rw [List.filter_eq_nil_iff.2 (by simp)]; rfl
  obtain ⟨g, h1, n1, e1, l1, x1, b1, c1, d1⟩ := sev_loop (k0 := f) (by omega) f hl c (((n : Nat) : Int) == ((n : Nat) : Int)) hm hn1 hn (id := nx + 2) sl (by omega) l.length f 0 (fun _ => false) (h.put (nx + 2) (some ⟨bls (fun _ => false) n, 1, true⟩)) (nx + 6) (by omega) (by omega) (by omega) ⟨by omega, fun j hj => put_ne (by omega)⟩ (put_same _ _ _) (by omega) (fun j hj => by omega)
  rw [c0, show ((0 : Nat) : Int) = 0 from rfl] at e1
  dsimp only
  rw [e1, F35_J3_eq]
  have sg : Sl h1 (n1 + 2) (some (nx + 2, 0)) n 1 (bls g n) := Sl.ofBlk b1 (by rw [bls_len]; omega) (by omega)
  obtain ⟨oa, oc, h2, n2, e2, x2, o2⟩ := sev_out (callP Try.prog keepT f) f hn (((n : Nat) : Int) == ((n : Nat) : Int)) sg n f 0 none false h1 (n1 + 2) (by omega) (by omega) (Ext.refl _ _) (OwnRows.nil _ _ _ _) (fun i ⟨_, z⟩ => by cases z)
  rw [show ((0 : Nat) : Int) = 0 from rfl] at e2
  change F35_L4 _ _ _ _ _ _ _ _ _ 0 _ _ _ _ = _ at e2
  rw [e2]
  exact ⟨g, oa, oc, h2, n2, rfl, x1.trans (x2.from (by omega)), o2, c1, d1⟩

end Go.Proofs.Ytdfopcgfhjijgaa.T

namespace Go.Proofs.Ytdfopcgfhjijgaa.T
open Go Go.RowKit Go.Proofs

/-! ### par.refused, par.Rebuild -/
def inL (ls : List Nat) (i j : Nat) : Bool := decide (j ∈ ls.take i)
theorem inL_zero (ls : List Nat) : inL ls 0 = fun _ => false := by funext j; simp [inL]
theorem inL_set {ls : List Nat} {i k : Nat} (hi : i < ls.length) (hk : ls[i] = k) (j : Nat) : (j == k || inL ls i j) = inL ls (i + 1) j := by
  unfold inL
  rw [show ls.take (i + 1) = ls.take i ++ [k] from by rw [← hk]; exact List.take_succ_eq_append_getElem hi]
  rw [Bool.eq_iff_iff]; simp [or_comm]
theorem inL_new {ls : List Nat} {i k : Nat} (hp : ls.Pairwise (· < ·)) (hi : i < ls.length) (hk : ls[i] = k) : inL ls i k = false := by
  unfold inL
  rw [decide_eq_false_iff_not]
  intro hm
  obtain ⟨j, hj, e⟩ := List.getElem_of_mem hm
  have hji : j < i := by rw [List.length_take] at hj; omega
  rw [List.getElem_take] at e
  have := (List.pairwise_iff_getElem.1 hp) j i (by omega) hi hji
  omega
theorem inL_all {g : Nat → Bool} {N j : Nat} (hj : j < N) {t : Nat} (ht : ((List.range N).filter g).length = t) : inL ((List.range N).filter g) t j = g j := by
  unfold inL
  rw [List.take_of_length_le (by omega), Bool.eq_iff_iff]
  simp [List.mem_filter, hj]
theorem bls_congr {g g' : Nat → Bool} {n : Nat} (e : ∀ j, j < n → g j = g' j) : bls g n = bls g' n := List.map_congr_left fun k hk => by rw [e k (List.mem_range.1 hk)]

theorem ref_loop {k0 : Nat} (hk0 : 400 ≤ k0) (lf : Nat) {N t w : Nat} (hN : N ≤ 256) (hw : w ≤ 4096) {g : Nat → Bool} {D : Nat → List Nat} (ht : ((List.range N).filter g).length = t) {a la : Option (Nat × Nat)} (c lc gc : Bool) (code : Int) {h0 : AHeap} {n0 id : Nat} (T : Torn h0 n0 a N g w D) (sl : Sl h0 n0 la t 1 (ints .i64 (nints ((List.range N).filter g)))) (hid : n0 ≤ id) (m : Nat) :
    ∀ (f i : Nat) (h : AHeap) (nx : Nat), i + m = t → m < f → id < nx → Ext h0 n0 h nx → h id = some ⟨bls (inL ((List.range N).filter g) i) N, 1, true⟩ →
    ∃ (h' : AHeap) (nx' : Nat), F54_L1 (callP Try.prog keepT k0) Y0 lf f a N c code (some (id, 0)) N gc la t lc ((t : Nat) : Int) (i : Int) h nx = some (.tuple [.slice none 0 false, .int .i64 code], h', nx') ∧ Ext h0 n0 h' nx' := by
  obtain ⟨ls, hls⟩ : ∃ ls, ls = (List.range N).filter g := ⟨_, rfl⟩
  have htl : t ≤ N := by rw [← ht]; exact cnt_le g N
  rw [← hls] at ht sl ⊢
  have hmem : ∀ k ∈ ls, k < N := fun k hk => by rw [hls] at hk; exact List.mem_range.1 (List.mem_filter.1 hk).1
  induction m with
  | zero =>
    intro f i h nx e hf hlt x hb
    obtain ⟨f, rfl⟩ : ∃ m, f = m + 1 := ⟨f - 1, by omega⟩
    obtain rfl : i = t := by omega
    have y := x.1
    rw [bls_congr (g' := g) fun j hj => by rw [hls] at ht ⊢; exact inL_all hj ht] at hb
    obtain ⟨oa, oc, h1, n1, e1, x1, m1⟩ := left_spec (f := k0) (by omega) c gc hN ((T.ext x).ext (nx' := nx + 6) ⟨by omega, fun _ _ => rfl⟩) ((Sl.ofBlk hb (by rw [bls_len]; omega) hlt : Sl h nx (some (id, 0)) N 1 (bls g N)).ext (nx' := nx + 6) ⟨by omega, fun _ _ => rfl⟩)
    have kl := kept_le g N
    obtain ⟨h2, n2, e2, x2⟩ := even_spec (f := k0) (by omega) (M := (kept g N).map D) (by rw [List.length_map]; omega) hw oc m1
    rw [List.length_map] at e2
    rw [F54_L1_eq, if_neg (by simp), e1]
    simp only [bind_some', asI_int, asB_bool, asStr_str, asP_ptr, asSl_sl, asAgg_1, asAgg_2, asAgg_3, asAgg_4, asTup_0, asTup_2, asTup_3, asTup_4, if_true', if_false', if_not_true', if_not_false', getD_0, getD_1, getD_2, getD_3]
    rw [e2]
    simp only [bind_some', asI_int, asB_bool, asStr_str, asP_ptr, asSl_sl, asAgg_1, asAgg_2, asAgg_3, asAgg_4, asTup_0, asTup_2, asTup_3, asTup_4, if_true', if_false', if_not_true', if_not_false', getD_0, getD_1, getD_2, getD_3]
    have y1 := x1.1
    have y2 := x2.1
    exact ⟨h2, n2 + 3, rfl, by omega, fun j hj => by rw [x2.2 j (by omega), x1.2 j (by omega), x.2 j hj]⟩
  | succ m ih =>
    intro f i h nx e hf hlt x hb
    obtain ⟨f, rfl⟩ : ∃ m, f = m + 1 := ⟨f - 1, by omega⟩
    have hi : i < t := by omega
    have y := x.1
    obtain ⟨k, hk⟩ : ∃ k, ls[i]'(by omega) = k := ⟨_, rfl⟩
    have hkN : k < N := hmem k (by rw [← hk]; exact List.getElem_mem _)
    rw [F54_L1_eq, if_pos (by simpa using hi), (sl.ext x).readN ht (by omega)]
    simp only [bind_some', asI_int, asB_bool, asStr_str, asP_ptr, asSl_sl, asAgg_1, asAgg_2, asAgg_3, asAgg_4, asTup_0, asTup_2, asTup_3, asTup_4, if_true', if_false', if_not_true', if_not_false', getD_0, getD_1, getD_2, getD_3]
    rw [hk, if_pos (by simp), if_pos (by simpa using hkN)]
    rw [if_pos ⟨by omega, by omega⟩, show 0 + Int.toNat (k : Int) * 1 = k from by omega, st_to hb rfl (by rw [bls_len]; exact hkN) bls_set, wsucc (by omega)]
    refine ih f (i + 1) _ (nx + 18) (by omega) (by omega) (by omega) ⟨by omega, fun j hj => by rw [put_ne (by omega), x.2 j hj]⟩ ?_
    rw [put_same, bls_congr fun j _ => inL_set (by omega) hk j]

theorem refused_spec {f : Nat} (hf : 500 ≤ f) {N t w : Nat} (hN : N ≤ 256) (hw : w ≤ 4096) {g : Nat → Bool} {D : Nat → List Nat} (ht : ((List.range N).filter g).length = t) {a la : Option (Nat × Nat)} (c lc : Bool) (code : Int) {h : AHeap} {nx : Nat} (T : Torn h nx a N g w D) (sl : Sl h nx la t 1 (ints .i64 (nints ((List.range N).filter g)))) :
    ∃ (h' : AHeap) (nx' : Nat), callP Try.prog keepT f Y0 54 [.slice a N c, .slice la t lc, .int .i64 code] h nx = some (.tuple [.slice none 0 false, .int .i64 code], h', nx') ∧ Ext h nx h' nx' := by
  obtain ⟨f, rfl⟩ : ∃ m, f = m + 1 := ⟨f - 1, by omega⟩
  have htl : t ≤ N := by rw [← ht]; exact cnt_le g N
  rw [F54_eq, if_pos (by simp; omega)]
  have hz : madeA [AV.bool false] (Int.toNat ((N : Nat) : Int) * 1) = bls (inL ((List.range N).filter g) 0) N := by
    rw [Int.toNat_natCast, Nat.mul_one, inL_zero]; exact bls_false N
  rw [hz, show Int.toNat ((N : Nat) : Int) = N from Int.toNat_natCast N]
  obtain ⟨h1, n1, e1, x1⟩ := ref_loop (k0 := f) (by omega) f hN hw ht c lc (((N : Nat) : Int) == ((N : Nat) : Int)) code (id := nx + 4) T sl (by omega) t f 0 (h.put (nx + 4) (some ⟨bls (inL ((List.range N).filter g) 0) N, 1, true⟩)) (nx + 9) (by omega) (by omega) (by omega) ⟨by omega, fun j hj => put_ne (by omega)⟩ (put_same _ _ _)
  rw [show ((0 : Nat) : Int) = 0 from rfl] at e1
  dsimp only
  rw [e1]
  exact ⟨h1, n1, rfl, x1⟩

theorem gone_loop (call : YldF → CallF) (lf : Nat) {N t : Nat} (hN : N ≤ 256) {g : Nat → Bool} (ht : ((List.range N).filter g).length = t) (a : Option (Nat × Nat)) {la : Option (Nat × Nat)} (c lc gc : Bool) (p n : Int) {h0 : AHeap} {n0 id : Nat} (sl : Sl h0 n0 la t 1 (ints .i64 (nints ((List.range N).filter g)))) (hid : n0 ≤ id) (m : Nat) :
    ∀ (f i : Nat) (h : AHeap) (nx : Nat), i + m = t → m < f → id < nx → Ext h0 n0 h nx → h id = some ⟨bls (inL ((List.range N).filter g) i) N, 1, true⟩ →
    ∃ (f' : Nat) (h' : AHeap) (nx' : Nat), F36_L2 call Y0 lf f a N c p la t lc n (some (id, 0)) N gc 0 la t lc ((t : Nat) : Int) (i : Int) h nx = F36_L2 call Y0 lf (f' + 1) a N c p la t lc n (some (id, 0)) N gc 0 la t lc ((t : Nat) : Int) (t : Int) h' nx' ∧ Ext h0 n0 h' nx' ∧ h' id = some ⟨bls g N, 1, true⟩ ∧ id < nx' := by
  obtain ⟨ls, hls⟩ : ∃ ls, ls = (List.range N).filter g := ⟨_, rfl⟩
  have htl : t ≤ N := by rw [← ht]; exact cnt_le g N
  rw [← hls] at ht sl ⊢
  have hmem : ∀ k ∈ ls, k < N := fun k hk => by rw [hls] at hk; exact List.mem_range.1 (List.mem_filter.1 hk).1
  have hpw : ls.Pairwise (· < ·) := by rw [hls]; exact List.Pairwise.filter _ List.pairwise_lt_range
  induction m with
  | zero =>
    intro f i h nx e hf hlt x hb
    obtain ⟨f, rfl⟩ : ∃ m, f = m + 1 := ⟨f - 1, by omega⟩
    obtain rfl : i = t := by omega
    rw [bls_congr (g' := g) fun j hj => by rw [hls] at ht ⊢; exact inL_all hj ht] at hb
    exact ⟨f, h, nx, rfl, x, hb, hlt⟩
  | succ m ih =>
    intro f i h nx e hf hlt x hb
    obtain ⟨f, rfl⟩ : ∃ m, f = m + 1 := ⟨f - 1, by omega⟩
    have hi : i < t := by omega
    have y := x.1
    obtain ⟨k, hk⟩ : ∃ k, ls[i]'(by omega) = k := ⟨_, rfl⟩
    have hkN : k < N := hmem k (by rw [← hk]; exact List.getElem_mem _)
    rw [F36_L2_eq, if_pos (by simpa using hi), (sl.ext x).readN ht (by omega)]
    simp only [bind_some', asI_int, asB_bool, asStr_str, asP_ptr, asSl_sl, asAgg_1, asAgg_2, asAgg_3, asAgg_4, asTup_0, asTup_2, asTup_3, asTup_4, if_true', if_false', if_not_true', if_not_false', getD_0, getD_1, getD_2, getD_3]
    rw [hk, if_neg (by simp), if_neg (by simp; omega)]
    rw [if_pos ⟨by omega, by omega⟩, show 0 + Int.toNat (k : Int) * 1 = k from by omega, ld_at hb (bls_get _ hkN), inL_new hpw (by omega) hk]
    simp only [bind_some', asI_int, asB_bool, asStr_str, asP_ptr, asSl_sl, asAgg_1, asAgg_2, asAgg_3, asAgg_4, asTup_0, asTup_2, asTup_3, asTup_4, if_true', if_false', if_not_true', if_not_false', getD_0, getD_1, getD_2, getD_3]
    rw [if_pos ⟨by omega, by omega⟩, st_to hb rfl (by rw [bls_len]; exact hkN) bls_set, wsucc (by omega)]
    refine ih f (i + 1) _ (nx + 24) (by omega) (by omega) (by omega) ⟨by omega, fun j hj => by rw [put_ne (by omega), x.2 j hj]⟩ ?_
    rw [put_same, bls_congr fun j _ => inL_set (by omega) hk j]

theorem rebuild_spec {f : Nat} (hf : 5400 ≤ f) {g : Nat → Bool} {M : List (List Nat)} {w n p N t : Nat} (hn : M.length = n) (hn1 : 1 ≤ n) (hn12 : n ≤ 12) (hp1 : 1 ≤ p) (hp3 : p ≤ 3) (hN : N = n + p) (hM : ∀ r ∈ M, r.length = w) (sM : SmallM M) (hw : w ≤ 4096) (ht : ((List.range N).filter g).length = t)
    {a la : Option (Nat × Nat)} (c lc : Bool) {h : AHeap} {nx : Nat} (T : Torn h nx a N g w (colD M n w)) (sl : Sl h nx la t 1 (ints .i64 (nints ((List.range N).filter g)))) :
    (t ≤ p → ∃ ob oc h' nx', callP Try.prog keepT f Y0 36 [.slice a N c, .int .i64 (p : Int), .slice la t lc] h nx = some (.tuple [.slice (some (ob, 0)) N oc, .int .i64 0], h', nx') ∧ Ext h nx h' nx' ∧ Mat h' nx' .u8 (some (ob, 0)) (M ++ encs M w p) w) ∧
    (p < t → ∃ h' nx', callP Try.prog keepT f Y0 36 [.slice a N c, .int .i64 (p : Int), .slice la t lc] h nx = some (.tuple [.slice none 0 false, .int .i64 12], h', nx')) := by
  obtain ⟨f, rfl⟩ : ∃ m, f = m + 1 := ⟨f - 1, by omega⟩
  obtain ⟨k, rfl⟩ : ∃ m, f = m + 1 := ⟨f - 1, by omega⟩
  have htl : t ≤ N := by rw [← ht]; exact cnt_le g N
  rw [F36_eq, F48_eq, if_pos (by simp; omega), decide_eq_true (by omega)]
  simp only [bind_some', asI_int, asB_bool, asStr_str, asP_ptr, asSl_sl, asAgg_1, asAgg_2, asAgg_3, asAgg_4, asTup_0, asTup_2, asTup_3, asTup_4, if_true', if_false', if_not_true', if_not_false', getD_0, getD_1, getD_2, getD_3]
  rw [if_pos (show (p : Int) > 0 by omega), if_pos (show (p : Int) < ((N : Nat) : Int) by omega)]
  rw [show wrapA .i64 (((N : Nat) : Int) - (p : Int)) = (n : Int) from by rw [wA (by omega) (by omega)]; omega]
  rw [if_neg (by simp; omega), if_neg (by simp; omega), F36_J1_eq, if_pos (by simp; omega)]
  have hz : madeA [AV.bool false] (Int.toNat ((N : Nat) : Int) * 1) = bls (inL ((List.range N).filter g) 0) N := by
    rw [Int.toNat_natCast, Nat.mul_one, inL_zero]; exact bls_false N
  rw [hz, show Int.toNat ((N : Nat) : Int) = N from Int.toNat_natCast N]
  obtain ⟨f', h1, n1, e1, x1, b1, l1⟩ := gone_loop (callP Try.prog keepT (k + 1)) (k + 1) (N := N) (by omega) ht a c lc (((N : Nat) : Int) == ((N : Nat) : Int)) (p : Int) (n : Int) (id := nx + 22 + 8 + 2) sl (by omega) t (k + 1) 0 (h.put (nx + 22 + 8 + 2) (some ⟨bls (inL ((List.range N).filter g) 0) N, 1, true⟩)) (nx + 22 + 8 + 8) (by omega) (by omega) (by omega) ⟨by omega, fun j hj => put_ne (by omega)⟩ (put_same _ _ _)
  rw [show ((0 : Nat) : Int) = 0 from rfl] at e1
  dsimp only
  rw [e1, F36_L2_eq, if_neg (by simp), if_pos (by simp)]
  have y1 := x1.1
  constructor
  · intro htp
    rw [if_neg (by simp; omega), F36_J3_eq, if_neg (by simp)]
    have sg : Sl h1 (n1 + 9) (some (nx + 22 + 8 + 2, 0)) N 1 (bls g N) := Sl.ofBlk b1 (by rw [bls_len]; omega) (by omega)
    have T1 := T.ext (x1.le (show n1 ≤ n1 + 9 + 7 by omega))
    obtain ⟨oa, oc, h2, n2, e2, x2, m2⟩ := left_spec (f := k + 1) (by omega) c (((N : Nat) : Int) == ((N : Nat) : Int)) (n := N) (by omega) T1 (sg.ext (nx' := n1 + 9 + 7) ⟨by omega, fun _ _ => rfl⟩)
    have kl := kept_le g N
    have y2 := x2.1
    obtain ⟨h3, n3, e3, x3⟩ := even_spec (f := k + 1) (by omega) (M := (kept g N).map (colD M n w)) (by rw [List.length_map]; omega) hw oc m2
    rw [List.length_map] at e3
    have y3 := x3.1
    have ck := cnt_kept g N
    have cs := cnt_surv g n p
    have hct : cnt g N = t := ht
    rw [← hN, hct] at cs
    obtain ⟨ob, ooc, h4, n4, e4, x4, m4⟩ := rebuilt_spec (f := k + 1) (by omega) hn hn1 hn12 hp3 hN hM sM hw c (((N : Nat) : Int) == ((N : Nat) : Int)) (h := h3) (nx := n3 + 6)
      ((T1.ext x2).ext ⟨by omega, fun j hj => x3.2 j hj⟩) ((sg.ext (nx' := n2) ⟨by omega, fun j hj => x2.2 j (by omega)⟩).ext ⟨by omega, fun j hj => x3.2 j hj⟩) (by change cnt g n ≤ _; omega) (by omega)
    have y4 := x4.1
    rw [e2]
    simp only [bind_some', asI_int, asB_bool, asStr_str, asP_ptr, asSl_sl, asAgg_1, asAgg_2, asAgg_3, asAgg_4, asTup_0, asTup_2, asTup_3, asTup_4, if_true', if_false', if_not_true', if_not_false', getD_0, getD_1, getD_2, getD_3]
    rw [e3]
    simp only [bind_some', asI_int, asB_bool, asStr_str, asP_ptr, asSl_sl, asAgg_1, asAgg_2, asAgg_3, asAgg_4, asTup_0, asTup_2, asTup_3, asTup_4, if_true', if_false', if_not_true', if_not_false', getD_0, getD_1, getD_2, getD_3]
    rw [e4]
    simp only [bind_some', asI_int, asB_bool, asStr_str, asP_ptr, asSl_sl, asAgg_1, asAgg_2, asAgg_3, asAgg_4, asTup_0, asTup_2, asTup_3, asTup_4, if_true', if_false', if_not_true', if_not_false', getD_0, getD_1, getD_2, getD_3]
    exact ⟨ob, ooc, h4, n4, rfl, ⟨by omega, fun j hj => by rw [x4.2 j (by omega), x3.2 j (by omega), x2.2 j (by omega), x1.2 j hj]⟩, m4⟩
  · intro htp
    rw [if_pos (by simp; omega), F36_J3_eq, if_pos (by simp)]
    obtain ⟨h2, n2, e2, x2⟩ := refused_spec (f := k + 1) (by omega) (N := N) (by omega) hw ht c lc 12 (T.ext (x1.le (show n1 ≤ n1 + 10 + 10 by omega))) (sl.ext (x1.le (show n1 ≤ n1 + 10 + 10 by omega)))
    rw [e2]
    simp only [bind_some', asI_int, asB_bool, asStr_str, asP_ptr, asSl_sl, asAgg_1, asAgg_2, asAgg_3, asAgg_4, asTup_0, asTup_2, asTup_3, asTup_4, if_true', if_false', if_not_true', if_not_false', getD_0, getD_1, getD_2, getD_3]
    exact ⟨h2, n2, rfl⟩

end Go.Proofs.Ytdfopcgfhjijgaa.T
