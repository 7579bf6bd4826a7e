import Derived.Test.YtalfcokiooaliaaG16
set_option linter.unusedVariables false
set_option linter.unusedSimpArgs false
namespace Go.Proofs.Ytalfcokiooaliaa.T
open Go Go.RowKit Go.Proofs

theorem Torn.congr {h : AHeap} {nx n w : Nat} {a : Option (Nat × Nat)} {g : Nat → Bool} {D D' : Nat → List Nat} (t : Torn h nx a n g w D) (e : ∀ k, k < n → g k = false → D k = D' k) : Torn h nx a n g w D' := by
  obtain ⟨P, s, k⟩ := t
  exact ⟨P, s, fun i hi hg => by rw [← e i hi hg]; exact k i hi hg⟩
def gP (N p : Nat) (gs : List Nat) (j : Nat) : Bool := decide (j ∈ gs.map (posOf N p))
def DaV (N p W : Nat) (v : Nat → List Nat) (lost : Nat → Bool) (j : Nat) : List Nat := fillV W v lost (colOf N p j)
theorem pos_nodup {N p : Nat} (hp : p < N) : ∀ {gs : List Nat}, gs.Nodup → (∀ k ∈ gs, k < N) → (gs.map (posOf N p)).Nodup
  | [], _, _ => List.nodup_nil
  | x :: gs, hn, hm => by
    have hn := List.nodup_cons.1 hn
    rw [List.map_cons]
    refine List.nodup_cons.2 ⟨fun hx => ?_, pos_nodup hp hn.2 fun k hk => hm k (List.mem_cons_of_mem _ hk)⟩
    obtain ⟨y, hy, e⟩ := List.mem_map.1 hx
    have e1 := col_pos hp (hm y (List.mem_cons_of_mem _ hy))
    have e2 := col_pos hp (hm x List.mem_cons_self)
    rw [e, e2] at e1
    exact hn.1 (e1 ▸ hy)
theorem gP_pos {N p : Nat} (hp : p < N) {gs : List Nat} (hm : ∀ k ∈ gs, k < N) {c : Nat} (hc : c < N) : gP N p gs (posOf N p c) = decide (c ∈ gs) := by
  unfold gP
  rw [Bool.eq_iff_iff]
  simp only [decide_eq_true_eq, List.mem_map]
  constructor
  · rintro ⟨y, hy, e⟩
    have e1 := col_pos hp (hm y hy)
    rw [e, col_pos hp hc] at e1
    rw [e1]; exact hy
  · exact fun hc => ⟨c, hc, rfl⟩
theorem gP_col {N p : Nat} (hp : p < N) {gs : List Nat} (hm : ∀ k ∈ gs, k < N) {j : Nat} (hj : j < N) : gP N p gs j = decide (colOf N p j ∈ gs) := by
  rw [← gP_pos hp hm (col_lt hp hj), pos_col hp hj]

theorem fillV_len {W : Nat} {v : Nat → List Nat} {lost : Nat → Bool} {c : Nat} (h : lost c = false → (v c).length ≤ W) : (fillV W v lost c).length = W := by
  unfold fillV
  by_cases hl : lost c = true
  · rw [if_pos hl]; simp
  · rw [if_neg hl]; exact padW_len (h (by simpa using hl))
theorem fillV_small {W : Nat} {v : Nat → List Nat} {lost : Nat → Bool} {c : Nat} (h : lost c = false → Small (v c)) : Small (fillV W v lost c) := by
  unfold fillV
  by_cases hl : lost c = true
  · rw [if_pos hl]
    intro x hx; rw [List.eq_of_mem_replicate hx]; omega
  · rw [if_neg hl]; exact padW_small (h (by simpa using hl))

theorem goodV {h : AHeap} {nx N p W : Nat} {w : Nat → Nat} {v : Nat → List Nat} {lost : Nat → Bool} {P : Nat → Tri} (hpN : p < N) (hw : ∀ k, k < N → w k ≤ W) (cl : ColsL h nx N w v lost P) (g : Nat → Bool) : GoodA g (DaV N p W v lost) N W where
  len := fun k hk _ => fillV_len fun hl => by
    have c := col_lt hpN hk
    rw [(cl.c _ c hl).2.1]; exact hw _ c
  sm := fun k hk _ => fillV_small fun hl => (cl.c _ (col_lt hpN hk) hl).2.2.1

theorem data_spec {f : Nat} (hf : 5700 ≤ f) {d p a n : Nat} (g : Geo d p n) (hp : 1 ≤ p) (hp3 : p ≤ 3) (hn32 : n ≤ 32) {v : Nat → List Nat} {lost : Nat → Bool} {P : Nat → Tri} {xa sa ga : Option (Nat × Nat)} (xc sc gc : Bool) {gs : List Nat} {t : Nat} {h : AHeap} {nx : Nat}
    (shp : Shp h nx sa d p a n) (sp : Sl h nx xa (colN d p n) 2 (prows P lost (colN d p n)).flatten) (cl : ColsL h nx (colN d p n) (bw d p n) v lost P) (ht : gs.length = t) (hmem : ∀ k ∈ gs, k < colN d p n) (hnd : gs.Nodup) (htp : t ≤ p) (sg : Sl h nx ga t 1 (ints .i64 (nints gs))) :
    ∃ us oa oc h' nx', callP Try.prog keepT f Y0 20 [.agg [.slice sa (colN d p n) sc, .int .i64 (p : Int), .int .i64 ((bw d p n 0 : Nat) : Int)], .slice xa (colN d p n) xc, .slice ga t gc] h nx = some (.slice oa (n * 128) oc, h', nx') ∧ Ext h nx h' nx' ∧
      Sl h' nx' oa (n * 128) 1 (ints .u8 (nints (flatO (solA (gP (colN d p n) p gs) (DaV (colN d p n) p (bw d p n 0) v lost) (colN d p n - p) (bw d p n 0) us us.length) d p n (colN d p n - p)))) ∧
      us.length = ((List.range (colN d p n - p)).filter (gP (colN d p n) p gs)).length ∧ us.Pairwise (· < ·) ∧ (∀ u ∈ us, u < p ∧ gP (colN d p n) p gs (colN d p n - p + u) = false) ∧ ∀ pp, oa = some pp → nx ≤ pp.1 := by
  obtain ⟨f, rfl⟩ : ∃ m, f = m + 1 := ⟨f - 1, by omega⟩
  have gp := g.pN
  have g8 := g.N8
  have W4 := bw_max g
  have hw : ∀ k, k < colN d p n → bw d p n k ≤ bw d p n 0 := fun k hk => bw_le g (by omega)
  have hz : madeA [AV.slice none 0 false] (Int.toNat 0 * 1) = [] := by rfl
  obtain ⟨h2, hh2⟩ : ∃ h2, h2 = AHeap.put (AHeap.put h nx (some ⟨[.slice sa (colN d p n) sc, .int .i64 (p : Int), .int .i64 ((bw d p n 0 : Nat) : Int)], 3, true⟩)) (nx + 4) (some ⟨[], 1, true⟩) := ⟨_, rfl⟩
  have hb2 : h2 nx = some ⟨[.slice sa (colN d p n) sc, .int .i64 (p : Int), .int .i64 ((bw d p n 0 : Nat) : Int)], 3, true⟩ := by rw [hh2, put_ne (by omega), put_same]
  have x2 : Ext h nx h2 (nx + 4) := ⟨by omega, fun j hj => by rw [hh2, put_ne (by omega), put_ne (by omega)]⟩
  rw [F20_eq, if_pos (by simp; omega), hz]
  dsimp only
  rw [← hh2, ld_at hb2 rfl]
  simp only [mst_]
  have o2 : OwnRows (BlkRow .u8 h2 (nx + 9) (ownOf (some (nx + 4, 0))) (bw d p n 0)) h2 (nx + 9) (some (nx + 4, 0)) 1 (allV (colN d p n) p (bw d p n 0) v lost 0) :=
    ⟨[], rfl, (fun r hr => by cases hr), .inr ⟨nx + 4, rfl, by omega, by rw [hh2, put_same]; rfl⟩⟩
  obtain ⟨oa3, oc3, h3, n3, e3, x3, o3, l3⟩ := data_first (k0 := f) (by omega) f g8 gp W4 hw (lost := lost) (P := P) (xa := xa) (ga := ga) xc gc sc t hb2 (by omega) (sp.ext x2) (cl.ext x2) (colN d p n - p) f 0 (some (nx + 4, 0)) (0 == ((colN d p n : Nat) : Int)) h2 (nx + 9) (by omega) (by omega) ⟨by omega, fun _ _ => rfl⟩ o2 (fun j ⟨o, z⟩ => by
    have := congrArg Prod.fst (Option.some.inj z)
    simp only at this; omega)
  change F20_L1 _ _ _ _ _ _ _ _ _ _ _ (some (nx + 4, 0)) (Int.toNat 0) _ ((p : Nat) : Int) _ _ = _ at e3
  rw [e3]
  obtain ⟨oa4, oc4, h4, n4, e4, x4, o4, l4⟩ := data_par (k0 := f) (by omega) f g8 gp W4 hw (lost := lost) (P := P) (xa := xa) (ga := ga) xc gc sc t hb2 (by omega) (sp.ext x2) (cl.ext x2) p f 0 oa3 oc3 h3 n3 (by omega) (by omega) x3 o3 l3
  rw [Nat.add_zero, show ((0 : Nat) : Int) = 0 from rfl] at e4
  rw [e4]
  have y3 := x3.1
  have y4 := x4.1
  have xx4 : Ext h nx h4 n4 := ⟨by omega, fun j hj => by rw [x4.2 j (by omega), x2.2 j hj]⟩
  have hb4 : h4 nx = some ⟨[.slice sa (colN d p n) sc, .int .i64 (p : Int), .int .i64 ((bw d p n 0 : Nat) : Int)], 3, true⟩ := (x4.2 nx (by omega)).trans hb2
  obtain ⟨f5, pa, pc, h5, n5, e5, x5, o5⟩ := places_loop (callP Try.prog keepT f) f g8 gp ht (by omega) hmem (xa := xa) (ya := oa4) xc oc4 gc sc (colN d p n) hb4 (by omega) (sg.ext xx4) t f 0 none false h4 n4 (by omega) (by omega) (Ext.refl _ _) (OwnRows.nil _ _ _ _) (fun j ⟨_, z⟩ => by cases z)
  rw [show ((0 : Nat) : Int) = 0 from rfl] at e5
  have y5 := x5.1
  have hb5 := (x5.2 nx (by omega)).trans hb4
  rw [e5, F20_L3_eq, if_neg (by simp)]
  simp only [mst_]
  rw [ld_at hb5 rfl]
  simp only [mst_]
  have xx5 : Ext h nx h5 n5 := xx4.trans x5
  have pl : (gs.map (posOf (colN d p n) p)).length = t := by rw [List.length_map, ht]
  have mm : Mat h5 (n5 + 11) .u8 oa4 (allV (colN d p n) p (bw d p n 0) v lost (colN d p n)) (bw d p n 0) := by
    have := o4.mat (D := fun x => x) (kd := .u8) (w := bw d p n 0) fun x _ r b => b.rw
    rw [List.map_id'] at this
    exact this.ext (x5.le (by omega))
  have T5 : Torn h5 (n5 + 11) oa4 (colN d p n) (gP (colN d p n) p gs) (bw d p n 0) (DaV (colN d p n) p (bw d p n 0) v lost) := by
    refine (Torn.of mm (allV_len _ _ _ _ _ _) (gP (colN d p n) p gs)).congr fun k hk _ => ?_
    simp [allV, DaV, List.getD, List.getElem?_range hk]
  obtain ⟨us, ob, obc, h6, n6, R, u1, u2, u3, e6, x6, m6, r6⟩ := rebuild_any (f := f) (by omega) (n := colN d p n - p) (p := p) (N := colN d p n) (by omega) (by omega) hp hp3 (by omega) (goodV gp hw cl (gP (colN d p n) p gs)) W4 pl (fun k hk => by
    obtain ⟨y, _, rfl⟩ := List.mem_map.1 hk
    exact pos_lt (by omega)) (pos_nodup gp hnd hmem) (fun j _ => rfl) oc4 pc T5 ((NRow.sl o5 pl).ext ⟨by omega, fun _ _ => rfl⟩) htp
  have y6 := x6.1
  have hb6 := (x6.2 nx (by omega)).trans hb5
  rw [e6]
  simp only [mst_]
  rw [ld_at hb6 rfl]
  simp only [mst_]
  have xx6 : Ext h nx h6 (n6 + 4) := ⟨by omega, fun j hj => by rw [x6.2 j (by omega), xx5.2 j hj]⟩
  obtain ⟨oa7, oc7, h7, n7, e7, x7, o7⟩ := out_loop4 (k0 := f) (by omega) f g hn32 (M := solA (gP (colN d p n) p gs) (DaV (colN d p n) p (bw d p n 0) v lost) (colN d p n - p) (bw d p n 0) us us.length ++ R) (by rw [List.length_append, solA_len, r6]; omega) (xa := xa) xc sc obc hb6 (by omega) (shp.ext xx6) (m6.ext ⟨by omega, fun _ _ => rfl⟩) (colN d p n - p) f 0 none false h6 (n6 + 4) (by omega) (by omega) (Ext.refl _ _) (OwnSl.nil _ _ _ _)
  change F20_L4 _ _ _ _ _ _ _ _ _ _ _ none 0 false ((p : Nat) : Int) _ _ = _ at e7
  rw [e7]
  have hflat : flatO (solA (gP (colN d p n) p gs) (DaV (colN d p n) p (bw d p n 0) v lost) (colN d p n - p) (bw d p n 0) us us.length ++ R) d p n (colN d p n - p) = flatO (solA (gP (colN d p n) p gs) (DaV (colN d p n) p (bw d p n 0) v lost) (colN d p n - p) (bw d p n 0) us us.length) d p n (colN d p n - p) := by
    unfold flatO
    congr 1
    refine List.map_congr_left fun j hj => ?_
    have hj := List.mem_range.1 hj
    simp only [List.getD, List.getElem?_append_left (show j < (solA (gP (colN d p n) p gs) (DaV (colN d p n) p (bw d p n 0) v lost) (colN d p n - p) (bw d p n 0) us us.length).length by rw [solA_len]; exact hj)]
  rw [hflat] at o7
  have y7 := x7.1
  refine ⟨us, oa7, oc7, h7, n7, rfl, ⟨by omega, fun j hj => by rw [x7.2 j (by omega), xx6.2 j hj]⟩, o7.sl, u1, u2, u3, fun pp hpp => ?_⟩
  rcases o7.2 with ⟨z, _⟩ | ⟨i, z, z1, _⟩
  · rw [z] at hpp; cases hpp
  · rw [z] at hpp
    obtain rfl := Option.some.inj hpp
    simp only; omega

end Go.Proofs.Ytalfcokiooaliaa.T
