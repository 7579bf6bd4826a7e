import Derived.Test.YtalfcokiooaliaaG7
set_option linter.unusedVariables false
set_option linter.unusedSimpArgs false
namespace Go.Proofs.Ytalfcokiooaliaa.T
open Go Go.RowKit Go.Proofs

/-- Columns in a slice. -/
def ColsAt (h : AHeap) (nx N : Nat) (w : Nat → Nat) (v : Nat → List Nat) (P : Nat → Tri) : Prop := ∀ k, k < N → (P k).2.1 = w k ∧ (v k).length = w k ∧ Sl h nx (P k).1 (w k) 1 (ints .u8 (nints (v k)))
theorem ColsAt.ext {h h' : AHeap} {nx nx' N : Nat} {w : Nat → Nat} {v : Nat → List Nat} {P : Nat → Tri} (c : ColsAt h nx N w v P) (x : Ext h nx h' nx') : ColsAt h' nx' N w v P := fun k hk => ⟨(c k hk).1, (c k hk).2.1, (c k hk).2.2.ext x⟩

def colV (Pd : List Nat) (d p n c : Nat) : List Nat := if c < p then enc (wholeL Pd d p n (colN d p n - p)) c (bw d p n 0) else pieceC Pd d p n (c - p)
theorem whole_small {Pd : List Nat} (s : Small Pd) (d p n i : Nat) : SmallM (wholeL Pd d p n i) := by
  intro r hr
  obtain ⟨j, _, rfl⟩ := List.mem_map.1 hr
  exact padW_small (piece_small s _ _ _ _)
theorem whole_row {Pd : List Nat} {d p n i : Nat} (g : Geo d p n) (hP : Pd.length = n * 128) (hi : i ≤ colN d p n - p) : ∀ r ∈ wholeL Pd d p n i, r.length = bw d p n 0 := by
  intro r hr
  obtain ⟨j, hj, rfl⟩ := List.mem_map.1 hr
  have hj := List.mem_range.1 hj
  refine padW_len ?_
  rw [piece_len g hP (by omega)]
  exact bw_le g (by have := g.N8; omega)
theorem colV_len {Pd : List Nat} {d p n : Nat} (g : Geo d p n) (hP : Pd.length = n * 128) {c : Nat} (hc : c < colN d p n) : (colV Pd d p n c).length = bw d p n c := by
  have g8 := g.N8
  unfold colV
  by_cases h : c < p
  · rw [if_pos h, enc_len]; unfold bw; rw [g.par c (by omega) h]
  · rw [if_neg h, piece_len g hP (by omega), show p + (c - p) = c from by omega]
theorem colV_small {Pd : List Nat} (s : Small Pd) (d p n c : Nat) : Small (colV Pd d p n c) := by
  unfold colV; split
  · exact enc_small _ _ _
  · exact piece_small s _ _ _ _

theorem lay_spec {f : Nat} (hf : 5400 ≤ f) {d p a m n : Nat} (hd : 2 ≤ d) (hd' : d ≤ 8) (hp : 1 ≤ p) (hp' : p ≤ 3) (hpd : p < d) (ha : a ≤ 65536) (hm : 1 ≤ m) (hm' : m ≤ 4000) (hn : n = (m + 127) / 128) {D : List Nat} (hD : D.length = m) (sD : Small D) {da : Option (Nat × Nat)} (dc : Bool) {h : AHeap} {nx : Nat} (sl : Sl h nx da m 1 (ints .u8 (nints D))) :
    ∃ P ob oc h' nx', callP Try.prog keepT f Y0 16 [.int .i64 (d : Int), .int .i64 (p : Int), .int .i64 (a : Int), .slice da m dc] h nx = some (.tuple [.slice (some (ob, 0)) (colN d p n) oc, .int .i64 0], h', nx') ∧ Ext h nx h' nx' ∧ Sl h' nx' (some (ob, 0)) (colN d p n) 1 (tcells P (colN d p n)) ∧ ColsAt h' nx' (colN d p n) (bw d p n) (colV (padW (n * 128) D) d p n) P ∧ ∀ k, k < colN d p n → Av (fun j => j < nx) (P k).1 (bw d p n k) := by
  obtain ⟨f, rfl⟩ : ∃ m, f = m + 1 := ⟨f - 1, by omega⟩
  have hn1 : 1 ≤ n ∧ n ≤ 32 := by omega
  have hmn : m ≤ n * 128 := by omega
  have g := geo d p n hd' hp' (by omega) hd hp hpd (by omega)
  have gp := g.pN
  have g8 := g.N8
  have W4 := bw_max g
  have hP : (padW (n * 128) D).length = n * 128 := padW_len (by omega)
  have sP : Small (padW (n * 128) D) := padW_small sD
  obtain ⟨sa, sc, h1, n1, e1, s1, x1, si, sie, si0, si1⟩ := shaped_spec (f := f) (by omega) hd hd' hp hp' hpd ha hm (by omega) h (nx + 14)
  rw [← hn] at e1 s1
  change callP _ _ _ _ _ _ _ _ = some (.tuple [.agg [.slice sa (colN d p n) sc, .int .i64 (p : Int), .int .i64 ((bw d p n 0 : Nat) : Int)], .int .i64 0], h1, n1) at e1
  have y1 := x1.1
  rw [F16_eq, e1]
  simp only [mst_]
  rw [st_all (put_same _ _ _) (by simp) (by simp) (by simp [allOne, AV.one])]
  rw [if_neg (by decide), sectors_spec (by omega) m (by omega), ← hn]
  simp only [mst_]
  rw [show wrapA .i64 (((n : Nat) : Int) * 128) = ((n * 128 : Nat) : Int) from by rw [wA (by omega) (by omega)]; omega]
  rw [if_pos (by simp; omega), show Int.toNat ((n * 128 : Nat) : Int) = n * 128 from Int.toNat_natCast _, show (((n * 128 : Nat) : Int) == ((n * 128 : Nat) : Int)) = true from by simp, Nat.mul_one]
  have hz : madeA [AV.int .u8 0] (n * 128) = ints .u8 (nints (List.replicate (n * 128) 0)) := by
    rw [made1]; simp [ints, nints]
  rw [hz]
  obtain ⟨H1, hH1⟩ : ∃ H1, H1 = (AHeap.put (AHeap.put h1 (nx + 11) (some ⟨[.slice none 0 false, .int .i64 0, .int .i64 0], 3, true⟩)) (nx + 11) (some ⟨[.slice sa (colN d p n) sc, .int .i64 (p : Int), .int .i64 ((bw d p n 0 : Nat) : Int)], 3, true⟩)).put (n1 + 6) (some ⟨ints .u8 (nints (List.replicate (n * 128) 0)), 1, true⟩) := ⟨_, rfl⟩
  have xH1 : Ext h nx H1 (n1 + 7) := ⟨by omega, fun j hj => by rw [hH1, put_ne (by omega), put_ne (by omega), put_ne (by omega), x1.2 j (by omega)]⟩
  rw [← hH1]
  obtain ⟨rd, cp⟩ := copy_spec (h := H1) (d := n1 + 6) (n := n * 128) (k := m) hm hmn (by rw [hH1, put_same]) (by simp [nints_len]) (sl.ext xH1)
  rw [cp, some_bind]
  dsimp only
  obtain ⟨H2, hH2⟩ : ∃ H2, H2 = H1.puts [(n1 + 6, some ⟨ints .u8 (nints D) ++ (ints .u8 (nints (List.replicate (n * 128) 0))).drop m, 1, true⟩)] := ⟨_, rfl⟩
  rw [← hH2]
  have hrest : H2 (n1 + 6) = some ⟨ints .u8 (nints (padW (n * 128) D)), 1, true⟩ := by
    rw [hH2, puts_cons, puts_nil, put_same]
    congr 2
    simp only [padW, ints, nints, List.map_append, List.map_replicate, List.drop_replicate, hD]
  have hbid : H2 (nx + 11) = some ⟨[.slice sa (colN d p n) sc, .int .i64 (p : Int), .int .i64 ((bw d p n 0 : Nat) : Int)], 3, true⟩ := by
    rw [hH2, puts_cons, puts_nil, put_ne (by omega), hH1, put_ne (by omega), put_same]
  have xH2 : Ext h nx H2 (n1 + 14 + 6) := ⟨by omega, fun j hj => by rw [hH2, puts_cons, puts_nil, put_ne (by omega), xH1.2 j hj]⟩
  have sH2 : Shp H2 (n1 + 14 + 6) sa d p a n := by
    have : Frm (fun j => j = nx + 11 ∨ n1 ≤ j) h1 n1 H2 (n1 + 14 + 6) := ⟨by omega, fun j hj hne => by
      rw [hH2, puts_cons, puts_nil, put_ne (by omega), hH1, put_ne (by omega), put_ne (fun z => hne (.inl z)), put_ne (fun z => hne (.inl z))]⟩
    refine Sl.fr (D := fun j => j = nx + 11 ∨ n1 ≤ j) s1 (fun _ pp hpp z => ?_) this
    rw [sie] at hpp
    obtain rfl := Option.some.inj hpp
    simp only at z; omega
  rw [ld_at hbid rfl]
  simp only [mst_]
  rw [if_pos (by simp; omega), show Int.toNat ((colN d p n : Nat) : Int) = colN d p n from Int.toNat_natCast _, show (((colN d p n : Nat) : Int) == ((colN d p n : Nat) : Int)) = true from by simp, Nat.mul_one, tcells_zero]
  obtain ⟨H3, hH3⟩ : ∃ H3, H3 = H2.put (n1 + 8 + 6 + 6) (some ⟨tcells (fun _ => (none, 0, false)) (colN d p n), 1, true⟩) := ⟨_, rfl⟩
  rw [← hH3]
  have lo0 := fun (P : Nat → Tri) (x : Ext H2 (n1 + 14 + 6) H3 (n1 + 8 + 6 + 11)) (hb : H3 (n1 + 8 + 6 + 6) = some ⟨tcells P (colN d p n), 1, true⟩) (c0 : _) => lay_loop (k0 := f) (by omega) f g hP sc (sa := sa) (bid := nx + 11) (rb := n1 + 6) (ob := n1 + 8 + 6 + 6) true (h0 := H2) (n0 := n1 + 14 + 6) hbid (by omega) sH2 (Sl.ofBlk hrest (by simp [nints_len, hP]) (by omega)) (by omega) (by omega) (colN d p n - p) f 0 true P none false H3 (n1 + 8 + 6 + 11) (by omega) (by omega) (by omega) x hb c0 (OwnRows.nil _ _ _ _) (fun j ⟨_, z⟩ => by cases z)
  obtain ⟨f', ra, rn, rc, P, wa, wc, h4, n4, e4, ob4, x4, b4, c4, o4, l4⟩ := lo0 (fun _ => (none, 0, false)) ⟨by omega, fun j hj => by rw [hH3, put_ne (by omega)]⟩ (by rw [hH3, put_same]) (fun k hk1 hk2 => by omega)
  change F16_L1 _ _ _ _ _ _ (some (n1 + 6, 0 * 128)) ((n - 0) * 128) _ _ _ _ _ _ _ ((p : Nat) : Int) _ _ = _ at e4
  rw [Nat.zero_mul, Nat.sub_zero] at e4
  rw [e4, F16_L1_eq, if_neg (by simp)]
  have y4 := x4.1
  have hwl := wholeL_len (padW (n * 128) D) d p n (colN d p n - p)
  have mm : Mat h4 n4 .u8 wa (wholeL (padW (n * 128) D) d p n (colN d p n - p)) (bw d p n 0) := by
    have := o4.mat (D := fun x => x) (kd := .u8) (w := bw d p n 0) fun x _ r b => b.rw
    rwa [List.map_id'] at this
  obtain ⟨oS, cS, h5, n5, e5, mS, x5⟩ := encode_spec (f := f) (by omega) (M := wholeL (padW (n * 128) D) d p n (colN d p n - p)) (w := bw d p n 0) (by omega) (by omega) W4 (whole_small sP _ _ _ _) wc (h := h4) (nx := n4 + 12) (a := wa) (mm.ext ⟨by omega, fun _ _ => rfl⟩) p (by omega) (by omega)
  rw [hwl] at e5
  rw [e5]
  simp only [mst_]
  have y5 := x5.1
  obtain ⟨qs, ro, ss, nn, dd⟩ := mS
  rw [encs_len] at ss
  have b5 : h5 (n1 + 8 + 6 + 6) = some ⟨tcells P (colN d p n), 1, true⟩ := by rw [x5.2 _ (by omega), b4]
  obtain ⟨rd2, cp2⟩ := copy_spec (h := h5) (d := n1 + 8 + 6 + 6) (n := colN d p n) (k := p) hp (by omega) b5 (tcells_len _ _) ss.sl
  rw [cp2, some_bind]
  have hql : qs.length = p := by
    have := ro.rows.length
    rw [this, encs_len]
  obtain ⟨P', hP'⟩ : ∃ P' : Nat → Tri, P' = fun k => if k < p then ((qs.getD k (none, false)).1, bw d p n 0, (qs.getD k (none, false)).2) else P k := ⟨_, rfl⟩
  have hcells : qs.map (rcell (bw d p n 0)) ++ (tcells P (colN d p n)).drop p = tcells P' (colN d p n) := by
    apply List.ext_getElem
    · simp [tcells, hql]; omega
    · intro i i1 i2
      have hi : i < colN d p n := by rw [tcells_len] at i2; exact i2
      by_cases hip : i < p
      · rw [List.getElem_append_left (by simp [hql]; exact hip)]
        simp only [tcells, List.getElem_map, List.getElem_range, hP', if_pos hip]
        rw [getD_at (by omega)]; rfl
      · rw [List.getElem_append_right (by simp [hql]; omega)]
        simp only [List.length_map, hql, List.getElem_drop, tcells, List.getElem_map, List.getElem_range, hP', if_neg hip]
        rw [show p + (i - p) = i from by omega]
  rw [hcells]
  refine ⟨P', n1 + 8 + 6 + 6, true, _, n5 + 6, rfl, ?_, ?_, ?_, ?_⟩
  · exact ⟨by omega, fun j hj => by rw [puts_cons, puts_nil, put_ne (by omega), x5.2 j (by omega), x4.2 j (by omega), xH2.2 j hj]⟩
  · exact Sl.ofBlk (by rw [puts_cons, puts_nil, put_same]) (by rw [tcells_len]; omega) (by omega)
  · intro k hk
    have fr : Frm (fun j => j = n1 + 8 + 6 + 6) h5 n5 (h5.puts [(n1 + 8 + 6 + 6, some ⟨tcells P' (colN d p n), 1, true⟩)]) (n5 + 6) := ⟨by omega, fun j hj hne => by rw [puts_cons, puts_nil, put_ne hne]⟩
    by_cases hkp : k < p
    · have hPk : P' k = ((qs.getD k (none, false)).1, bw d p n 0, (qs.getD k (none, false)).2) := by rw [hP']; simp only [if_pos hkp]
      have hbk : bw d p n k = bw d p n 0 := by unfold bw; rw [g.par k (by omega) hkp]
      obtain ⟨q, q1, q2⟩ := ro.getO (i := k) (by rw [encs_len]; exact hkp)
      have hqd : qs.getD k (none, false) = q := by simp [List.getD, q1]
      rw [hPk, hqd, hbk]
      refine ⟨rfl, by rw [colV_len g hP hk, hbk], ?_⟩
      have ev : colV (padW (n * 128) D) d p n k = (encs (wholeL (padW (n * 128) D) d p n (colN d p n - p)) (bw d p n 0) p)[k]'(by rw [encs_len]; exact hkp) := by
        rw [encs_get _ _ _ hkp]; unfold colV; rw [if_pos hkp]
      rw [ev]
      refine q2.sl.fr (D := fun j => j = n1 + 8 + 6 + 6) (fun _ pp hpp z => ?_) fr
      have := (q2.in (id := pp.1) (o := pp.2) (by rw [hpp])).1
      omega
    · have hPk : P' k = P k := by rw [hP']; simp only [if_neg hkp]
      rw [hPk]
      obtain ⟨z1, z2, z3⟩ := c4 k (by omega) hk
      have ev : colV (padW (n * 128) D) d p n k = pieceC (padW (n * 128) D) d p n (k - p) := by unfold colV; rw [if_neg hkp]
      refine ⟨z1, colV_len g hP hk, ?_⟩
      rw [ev]
      exact (z2.ext (h' := h5) (nx' := n5) ⟨by omega, fun j hj => x5.2 j (by omega)⟩).fr (D := fun j => j = n1 + 8 + 6 + 6) (fun w0 pp hpp z => z3 w0 pp hpp (.inl (.inl z))) fr
  · intro k hk
    by_cases hkp : k < p
    · have hPk : P' k = ((qs.getD k (none, false)).1, bw d p n 0, (qs.getD k (none, false)).2) := by rw [hP']; simp only [if_pos hkp]
      obtain ⟨q, q1, q2⟩ := ro.getO (i := k) (by rw [encs_len]; exact hkp)
      have hqd : qs.getD k (none, false) = q := by simp [List.getD, q1]
      rw [hPk, hqd]
      intro _ pp hpp z
      have := (q2.in (id := pp.1) (o := pp.2) (by rw [hpp])).1
      omega
    · have hPk : P' k = P k := by rw [hP']; simp only [if_neg hkp]
      rw [hPk]
      exact (c4 k (by omega) hk).2.2.less fun j z => .inr (by omega)

end Go.Proofs.Ytalfcokiooaliaa.T
