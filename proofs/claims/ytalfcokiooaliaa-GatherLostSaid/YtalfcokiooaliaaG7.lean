import Derived.Test.YtalfcokiooaliaaG6
set_option linter.unusedVariables false
set_option linter.unusedSimpArgs false
namespace Go.Proofs.Ytalfcokiooaliaa.T
open Go Go.RowKit Go.Proofs

/-! ### stripe.Lay -/
theorem OwnRows.pushF {α : Type} {Q : α → List AV → Prop} {h : AHeap} {nx : Nat} {a : Option (Nat × Nat)} {es : Nat} {l : List α} (w : OwnRows Q h nx a es l) (c : Bool) {bytes id id2 : Nat} {x : α} {r : List AV} (hr : r.length = es) (hq : Q x r) (hg : growOk (l.length + 1) bytes = true) (h1 : nx ≤ id) (h2 : id < id2) :
    ∃ e, srcS (h.put id (some ⟨r, es, true⟩)) (some (id, 0)) 1 es = some (1, r, [id]) ∧ appD (h.put id (some ⟨r, es, true⟩)) a l.length c es bytes id2 (1, r, [id]) = some e ∧ e.a = some (id2, 0) ∧ e.n = l.length + 1 ∧
      OwnRows Q ((h.put id (some ⟨r, es, true⟩)).puts e.sets) (id2 + 1) e.a es (l ++ [x]) ∧ (∀ j, ¬ ownOf a j → j ≠ id → j ≠ id2 → ((h.put id (some ⟨r, es, true⟩)).puts e.sets) j = h j) ∧ (∀ i, ownOf e.a i → i = id2) ∧ ∀ i, i ∈ e.reads → ownOf a i ∨ i = id := by
  obtain ⟨e, s1, s2, s3, s4, s5, s6, s7, s8⟩ := w.push c hr hq hg h1 h2
  refine ⟨e, s1, s2, s3, s4, s5, fun j j1 j2 j3 => ?_, fun i hi => ?_, fun i hi => ?_⟩
  · rw [puts_get, put_ne j2]
    intro hx
    rcases s8 j hx with q | q
    · exact j1 q
    · exact j3 q
  · obtain ⟨o, ho⟩ := hi
    rw [s3] at ho
    have := congrArg Prod.fst (Option.some.inj ho)
    exact this.symm
  · rcases appD_reads s2 i hi with q | q
    · exact .inl q
    · simp at q; exact .inr q

abbrev Tri := Option (Nat × Nat) × Nat × Bool
def tcell (t : Tri) : AV := .slice t.1 t.2.1 t.2.2
def tcells (P : Nat → Tri) (N : Nat) : List AV := (List.range N).map fun k => tcell (P k)
theorem tcells_len (P : Nat → Tri) (N : Nat) : (tcells P N).length = N := by simp [tcells]
theorem tcells_get {P : Nat → Tri} {N k : Nat} (hk : k < N) : (tcells P N)[k]? = some (tcell (P k)) := by simp [tcells, List.getElem?_range hk]
theorem tcells_set {P : Nat → Tri} {N k : Nat} {t : Tri} : (tcells P N).set k (tcell t) = tcells (fun j => if j = k then t else P j) N := by
  apply List.ext_getElem
  · simp [tcells]
  · intro j h1 h2
    rw [List.getElem_set]
    simp only [tcells, List.getElem_map, List.getElem_range]
    by_cases ej : k = j
    · subst ej; simp
    · rw [if_neg ej, if_neg (Ne.symm ej)]
theorem tcells_zero (N : Nat) : madeA [AV.slice none 0 false] N = tcells (fun _ => (none, 0, false)) N := by
  rw [made1]
  apply List.ext_getElem
  · simp [tcells]
  · intro i h1 h2; simp [tcells, tcell]

def bw (d p n c : Nat) : Nat := lenC d p n c * 128
def pieceC (Pd : List Nat) (d p n i : Nat) : List Nat := (Pd.drop (offC d p n i * 128)).take (bw d p n (p + i))
def wholeL (Pd : List Nat) (d p n i : Nat) : List (List Nat) := (List.range i).map fun j => padW (bw d p n 0) (pieceC Pd d p n j)
theorem wholeL_succ (Pd : List Nat) (d p n i : Nat) : wholeL Pd d p n (i + 1) = wholeL Pd d p n i ++ [padW (bw d p n 0) (pieceC Pd d p n i)] := by simp [wholeL, List.range_succ]
theorem wholeL_len (Pd : List Nat) (d p n i : Nat) : (wholeL Pd d p n i).length = i := by simp [wholeL]
theorem offC_mono (d p n : Nat) {i : Nat} : ∀ j, i ≤ j → offC d p n i ≤ offC d p n j
  | 0, h => by obtain rfl : i = 0 := by omega
               exact Nat.le_refl _
  | j + 1, h => by
    by_cases e : i = j + 1
    · subst e; exact Nat.le_refl _
    · have := offC_mono d p n j (i := i) (by omega)
      show _ ≤ offC d p n j + _; omega
theorem Geo.off {d p n : Nat} (g : Geo d p n) {i : Nat} (hi : i < colN d p n - p) : offC d p n i + lenC d p n (p + i) ≤ n := by
  have h1 := offC_mono d p n (i := i + 1) (colN d p n - p) (by omega)
  rw [g.sum] at h1
  exact h1
theorem piece_len {Pd : List Nat} {d p n : Nat} (g : Geo d p n) (hP : Pd.length = n * 128) {i : Nat} (hi : i < colN d p n - p) : (pieceC Pd d p n i).length = bw d p n (p + i) := by
  have := g.off hi
  unfold pieceC bw
  rw [List.length_take, List.length_drop, hP]; omega
theorem bw_le {d p n : Nat} (g : Geo d p n) {c : Nat} (hc : c < 8) : bw d p n c ≤ bw d p n 0 := Nat.mul_le_mul_right _ (g.le c hc)
theorem bw_pos {d p n : Nat} (g : Geo d p n) {c : Nat} (hc : c < colN d p n) : 1 ≤ bw d p n c := by have := g.pos c hc; unfold bw; omega
theorem bw_max {d p n : Nat} (g : Geo d p n) : bw d p n 0 ≤ 4096 := by have := g.l32; unfold bw; omega
theorem piece_small {Pd : List Nat} (s : Small Pd) (d p n i : Nat) : Small (pieceC Pd d p n i) := fun x hx => s x (List.mem_of_mem_drop (List.mem_of_mem_take hx))

/-- The set that the columns avoid. -/
def avL (ob : Nat) (wa : Option (Nat × Nat)) : Nat → Prop := fun j => j = ob ∨ ownOf wa j

theorem lay_loop {k0 : Nat} (hk0 : 10 ≤ k0) (lf : Nat) {d p a n : Nat} (g : Geo d p n) {Pd : List Nat} (hP : Pd.length = n * 128) {sa : Option (Nat × Nat)} (sc : Bool) {bid rb ob : Nat} (oc : Bool) {h0 : AHeap} {n0 : Nat}
    (hb : h0 bid = some ⟨[.slice sa (colN d p n) sc, .int .i64 (p : Int), .int .i64 ((bw d p n 0 : Nat) : Int)], 3, true⟩) (hbl : bid < n0) (shp : Shp h0 n0 sa d p a n) (rest : Sl h0 n0 (some (rb, 0)) (n * 128) 1 (ints .u8 (nints Pd))) (hrb : rb < n0) (hob : n0 ≤ ob) (m : Nat) :
    ∀ (f i : Nat) (rc : Bool) (P : Nat → Tri) (wa : Option (Nat × Nat)) (wc : Bool) (h : AHeap) (nx : Nat), i + m = colN d p n - p → m < f → ob < nx → Ext h0 n0 h nx → h ob = some ⟨tcells P (colN d p n), 1, true⟩ →
      (∀ k, p ≤ k → k < p + i → (P k).2.1 = bw d p n k ∧ Sl h nx (P k).1 (bw d p n k) 1 (ints .u8 (nints (pieceC Pd d p n (k - p)))) ∧ Av (fun j => avL ob wa j ∨ j < n0) (P k).1 (bw d p n k)) →
      OwnRows (BlkRow .u8 h nx (avL ob wa) (bw d p n 0)) h nx wa 1 (wholeL Pd d p n i) → (∀ j, ownOf wa j → n0 ≤ j ∧ j ≠ ob) →
    ∃ (f' : Nat) (ra' : Option (Nat × Nat)) (rn' : Nat) (rc' : Bool) (P' : Nat → Tri) (wa' : Option (Nat × Nat)) (wc' : Bool) (h' : AHeap) (nx' : Nat),
      F16_L1 (callP Try.prog keepT k0) Y0 lf f (p : Int) (some (bid, 0)) (some (rb, offC d p n i * 128)) ((n - offC d p n i) * 128) rc (some (ob, 0)) (colN d p n) oc wa i wc ((p + i : Nat) : Int) h nx =
        F16_L1 (callP Try.prog keepT k0) Y0 lf (f' + 1) (p : Int) (some (bid, 0)) ra' rn' rc' (some (ob, 0)) (colN d p n) oc wa' (colN d p n - p) wc' ((colN d p n : Nat) : Int) h' nx' ∧ ob < nx' ∧ Ext h0 n0 h' nx' ∧ h' ob = some ⟨tcells P' (colN d p n), 1, true⟩ ∧
      (∀ k, p ≤ k → k < colN d p n → (P' k).2.1 = bw d p n k ∧ Sl h' nx' (P' k).1 (bw d p n k) 1 (ints .u8 (nints (pieceC Pd d p n (k - p)))) ∧ Av (fun j => avL ob wa' j ∨ j < n0) (P' k).1 (bw d p n k)) ∧
      OwnRows (BlkRow .u8 h' nx' (avL ob wa') (bw d p n 0)) h' nx' wa' 1 (wholeL Pd d p n (colN d p n - p)) ∧ (∀ j, ownOf wa' j → n0 ≤ j ∧ j ≠ ob) := by
  have gp := g.pN
  have g8 := g.N8
  obtain ⟨N, hN⟩ : ∃ N, colN d p n = N := ⟨_, rfl⟩
  have W4 := bw_max g
  induction m with
  | zero =>
    intro f i rc P wa wc h nx e hf hlt x hbo hc o lo
    obtain ⟨f, rfl⟩ : ∃ m, f = m + 1 := ⟨f - 1, by omega⟩
    obtain rfl : i = colN d p n - p := by omega
    rw [show p + (colN d p n - p) = colN d p n from by omega] at hc ⊢
    exact ⟨f, _, _, rc, P, wa, wc, h, nx, rfl, hlt, x, hbo, hc, o, lo⟩
  | succ m ih =>
    intro f i rc P wa wc h nx e hf hlt x hbo hc o lo
    obtain ⟨f, rfl⟩ : ∃ m, f = m + 1 := ⟨f - 1, by omega⟩
    have y := x.1
    have hi : i < colN d p n - p := by omega
    have hcN : p + i < colN d p n := by omega
    have go := g.off hi
    have pl := piece_len g hP hi
    have ble := bw_le g (c := p + i) (by omega)
    have hwl := wholeL_len Pd d p n i
    have olt := o.lt
    have hbh : h bid = some ⟨[.slice sa (colN d p n) sc, .int .i64 (p : Int), .int .i64 ((bw d p n 0 : Nat) : Int)], 3, true⟩ := (x.2 bid hbl).trans hb
    obtain ⟨w, hw⟩ : ∃ w, bw d p n (p + i) = w := ⟨_, rfl⟩
    have hw' : lenC d p n (p + i) * 128 = w := hw
    have hsz := size_spec (f := k0) (by omega) g sc (p : Int) ((bw d p n 0 : Nat) : Int) (shp.ext (x.le (show nx ≤ nx + 20 by omega))) hcN
    rw [hw'] at hsz
    obtain ⟨h1, hh1⟩ : ∃ h1, h1 = h.put (nx + 20) (some ⟨[.slice sa (colN d p n) sc, .int .i64 (p : Int), .int .i64 ((bw d p n 0 : Nat) : Int)], 3, true⟩) := ⟨_, rfl⟩
    rw [← hh1] at hsz
    have x1 : Ext h nx h1 (nx + 30) := ⟨by omega, fun j hj => by rw [hh1, put_ne (by omega)]⟩
    -- what is left
    have restI : Sl h0 n0 (some (rb, offC d p n i * 128)) ((n - offC d p n i) * 128) 1 (ints .u8 (nints (Pd.drop (offC d p n i * 128)))) := by
      obtain ⟨_, c2, _⟩ := rest.cut true (lo := offC d p n i * 128) (hi := n * 128) (l := some (.int .i64 ((offC d p n i * 128 : Nat) : Int))) (r := none) (by omega) (by omega) (bound_some (by omega)) bound_none
      have e1 : shiftAddr (some (rb, 0)) (offC d p n i * 128 * 1) = some (rb, offC d p n i * 128) := by simp [shiftAddr]
      rw [e1, show n * 128 - offC d p n i * 128 = (n - offC d p n i) * 128 from by omega] at c2
      have e2 : ((ints .u8 (nints Pd)).drop (offC d p n i * 128 * 1)).take ((n - offC d p n i) * 128 * 1) = ints .u8 (nints (Pd.drop (offC d p n i * 128))) := by
        rw [nints_drop, ints, ints, List.map_drop, Nat.mul_one, Nat.mul_one, List.take_of_length_le]
        rw [List.length_drop, List.length_map, nints_len, hP]; omega
      rw [e2] at c2; exact c2
    have xr1 : Ext h0 n0 h1 (nx + 30) := x.trans x1
    obtain ⟨u1, u2, _⟩ := (restI.ext xr1).cut rc (lo := 0) (hi := w) (l := none) (r := some (.int .i64 ((w : Nat) : Int))) (by omega) (by omega) bound_none (bound_some (by omega))
    have e3 : ((ints .u8 (nints (Pd.drop (offC d p n i * 128)))).drop (0 * 1)).take ((w - 0) * 1) = ints .u8 (nints (pieceC Pd d p n i)) := by
      unfold pieceC
      rw [hw, nints_take, ints, ints, List.map_take, Nat.zero_mul, List.drop_zero, Nat.sub_zero, Nat.mul_one]
    rw [e3, Nat.sub_zero] at u2
    rw [Nat.sub_zero] at u1
    obtain ⟨q, h2, n2, e2, r2, x2⟩ := bclone_spec (f := k0) (by omega) (pl.trans hw) (by omega) (rc && w == (n - offC d p n i) * 128) u2
    have y2 := x2.1
    have xr2 : Ext h0 n0 h2 n2 := xr1.trans x2
    have hsz2 := size_spec (f := k0) (by omega) g sc (p : Int) ((bw d p n 0 : Nat) : Int) (shp.ext xr2) hcN
    rw [hw'] at hsz2
    obtain ⟨h3, hh3⟩ : ∃ h3, h3 = h2.put n2 (some ⟨[.slice sa (colN d p n) sc, .int .i64 (p : Int), .int .i64 ((bw d p n 0 : Nat) : Int)], 3, true⟩) := ⟨_, rfl⟩
    rw [← hh3] at hsz2
    have x3 : Ext h2 n2 h3 (n2 + 10) := ⟨by omega, fun j hj => by rw [hh3, put_ne (by omega)]⟩
    have xr3 : Ext h0 n0 h3 (n2 + 10) := xr2.trans x3
    obtain ⟨v1, _, _⟩ := (restI.ext xr3).cut rc (lo := w) (hi := (n - offC d p n i) * 128) (l := some (.int .i64 ((w : Nat) : Int))) (r := none) (by omega) (by omega) (bound_some (by omega)) bound_none
    have e4 : shiftAddr (some (rb, offC d p n i * 128)) (w * 1) = some (rb, offC d p n (i + 1) * 128) := by
      have : offC d p n (i + 1) * 128 = offC d p n i * 128 + w * 1 := by
        show (offC d p n i + lenC d p n (p + i)) * 128 = _
        rw [Nat.add_mul, hw']; omega
      rw [this]; rfl
    have e5 : (n - offC d p n i) * 128 - w = (n - offC d p n (i + 1)) * 128 := by
      have : offC d p n (i + 1) = offC d p n i + lenC d p n (p + i) := rfl
      omega
    rw [e4, e5] at v1
    have hob3 : h3 ob = some ⟨tcells P (colN d p n), 1, true⟩ := by rw [x3.2 ob (by omega), x2.2 ob (by omega), x1.2 ob hlt, hbo]
    obtain ⟨P', hP'⟩ : ∃ P' : Nat → Tri, P' = fun j => if j = p + i then (q.1, w, q.2) else P j := ⟨_, rfl⟩
    have hset : (tcells P (colN d p n)).set (p + i) (.slice q.1 w q.2) = tcells P' (colN d p n) := by rw [hP']; exact tcells_set (t := (q.1, w, q.2))
    obtain ⟨h4, hh4⟩ : ∃ h4, h4 = h3.put ob (some ⟨tcells P' (colN d p n), 1, true⟩) := ⟨_, rfl⟩
    have b4 : h4 ob = some ⟨tcells P' (colN d p n), 1, true⟩ := by rw [hh4, put_same]
    -- the column
    obtain ⟨qid, q1, qi0, qi1, qb⟩ : ∃ id, q.1 = some (id, 0) ∧ nx + 30 ≤ id ∧ id < n2 ∧ h2 id = some ⟨ints .u8 (nints (pieceC Pd d p n i)), 1, true⟩ := by
      rcases r2.2 with ⟨_, z⟩ | z
      · have := bw_pos g hcN; omega
      · exact z
    have qb4 : h4 qid = some ⟨ints .u8 (nints (pieceC Pd d p n i)), 1, true⟩ := by rw [hh4, put_ne (by omega), x3.2 qid qi1, qb]
    have sq4 : Sl h4 (n2 + 20) q.1 w 1 (ints .u8 (nints (pieceC Pd d p n i))) := by
      rw [q1]; exact Sl.ofBlk qb4 (by simp [nints_len, pl, hw]) (by omega)
    obtain ⟨h5, e6, b5, x5⟩ := filled_spec (f := k0) (by omega) sa (colN d p n) sc (p : Int) (W := bw d p n 0) (by omega) (pl.trans hw) (by omega) q.2 sq4
    -- whole
    have f5 : ∀ j, j < nx → j ≠ ob → h5 j = h j := fun j hj hne => by rw [x5.2 j (by omega), hh4, put_ne hne, x3.2 j (by omega), x2.2 j (by omega), x1.2 j hj]
    have o5 : OwnRows (BlkRow .u8 h5 (n2 + 31) (fun j => avL ob wa j ∨ j = n2 + 17 ∨ j = n2 + 18) (bw d p n 0)) h5 (n2 + 17) wa 1 (wholeL Pd d p n i) :=
      o.go (D := fun j => j = ob) ⟨by omega, fun j hj hne => f5 j hj hne⟩ (fun j z zz => (lo j z).2 zz) fun r c bb => bb.go (Y := fun j => j = ob) ⟨by omega, fun j hj hne => f5 j hj hne⟩ (fun _ _ z => .inl z) (fun j hj z => z.elim (fun z => z) fun z => by omega)
    obtain ⟨E, s1, s2, s3, s4, s5, s6, s7, _⟩ := o5.pushF wc (bytes := 24) (id := n2 + 17) (id2 := n2 + 18) (x := padW (bw d p n 0) (pieceC Pd d p n i)) (r := [.slice (some (n2 + 20 + 4, 0)) (bw d p n 0) true]) rfl
      ⟨n2 + 20 + 4, true, rfl, padW_len (by omega), by omega, (by
        rintro ((z | z) | z)
        · omega
        · have := olt _ z; omega
        · omega), b5⟩ (growOk_of (by omega) (by omega)) (by omega) (by omega)
    rw [hwl] at s2 s4
    obtain ⟨Ea, hEa⟩ : ∃ z, z = E.a := ⟨_, rfl⟩
    rw [← hEa] at s3 s5 s7
    generalize hH : (h5.put (n2 + 17) (some ⟨[AV.slice (some (n2 + 20 + 4, 0)) (bw d p n 0) true], 1, true⟩)).puts E.sets = H at s5 s6
    have fH : ∀ j, j < nx → ¬ avL ob wa j → H j = h j := fun j hj hne => by
      rw [s6 j (fun z => hne (.inr z)) (by omega) (by omega)]
      exact f5 j hj fun z => hne (.inl z)
    have av' : ∀ j, j < nx → avL ob Ea j → avL ob wa j := fun j hj z => by
      rcases z with z | z
      · exact .inl z
      · have := s7 j z; omega
    have ak : AllKept [(h, h1, [bid]), (h1, h2, [bid])] := by
      refine ⟨fun z hz => ?_, fun z hz => ?_, trivial⟩
      · simp only [List.mem_singleton] at hz; subst hz; exact x1.2 _ (by omega)
      · simp only [List.mem_singleton] at hz; subst hz; exact x2.2 _ (by omega)
    have aa : AllApart [([ob], rdOf (some (rb, offC d p n i * 128)))] := ⟨fun z hz hz2 => by
      simp only [rdOf, List.mem_singleton] at hz hz2; omega, trivial⟩
    have hb2 : h2 bid = some ⟨[.slice sa (colN d p n) sc, .int .i64 (p : Int), .int .i64 ((bw d p n 0 : Nat) : Int)], 3, true⟩ := (xr2.2 bid hbl).trans hb
    have hb4 : h4 bid = some ⟨[.slice sa (colN d p n) sc, .int .i64 (p : Int), .int .i64 ((bw d p n 0 : Nat) : Int)], 3, true⟩ := by rw [hh4, put_ne (by omega)]; exact (xr3.2 bid hbl).trans hb
    rw [F16_L1_eq, if_pos (by simp; omega)]
    simp only [mst_]
    rw [ldr_all hbh (by simp)]
    simp only [mst_]
    rw [hsz]
    simp only [mst_]
    rw [u1, some_bind]
    dsimp only
    rw [e2]
    simp only [mst_]
    rw [ldr_all hb2 (by simp)]
    simp only [mst_]
    rw [hsz2]
    simp only [mst_]
    rw [v1, some_bind]
    dsimp only
    rw [if_pos ⟨by omega, by omega⟩, show 0 + Int.toNat ((p + i : Nat) : Int) * 1 = p + i from by omega, st_to hob3 rfl (by rw [tcells_len]; omega) hset, ← hh4, ifApart_pos aa, ifKept_pos ak]
    rw [ldr_all hb4 (by simp)]
    simp only [mst_]
    rw [if_pos ⟨by omega, by omega⟩, ld_at b4 (tcells_get (by omega))]
    have hPc : tcell (P' (p + i)) = .slice q.1 w q.2 := by rw [hP']; simp [tcell]
    rw [hPc]
    simp only [mst_]
    rw [e6]
    simp only [mst_]
    rw [s1, some_bind, s2, some_bind, hH, s4, wsucc (by omega), Nat.add_assoc, ← hEa]
    refine ih f (i + 1) _ P' Ea E.c H (n2 + 20 + 11 + 3) (by omega) (by omega) (by omega) ⟨by omega, fun j hj => ?_⟩ ?_ (fun k hk1 hk2 => ?_) ?_ (fun j z => by have := s7 j z; omega)
    · have : ¬ avL ob wa j := by
        rintro (z | z)
        · omega
        · have := (lo j z).1; omega
      rw [fH j (by omega) this, x.2 j hj]
    · rw [s6 ob (fun z => (lo ob z).2 rfl) (by omega) (by omega), x5.2 ob (by omega), b4]
    · by_cases ek : k = p + i
      · subst ek
        have hPk : P' (p + i) = (q.1, w, q.2) := by rw [hP']; simp
        rw [hPk, hw, show p + i - p = i from by omega, q1]
        have hHq : H qid = some ⟨ints .u8 (nints (pieceC Pd d p n i)), 1, true⟩ := by
          rw [s6 qid (fun z => by have := olt qid z; omega) (by omega) (by omega), x5.2 qid (by omega), qb4]
        refine ⟨rfl, Sl.ofBlk hHq (by simp [nints_len, pl, hw]) (by omega), fun _ pp hpp z => ?_⟩
        obtain rfl := Option.some.inj hpp
        rcases z with (z | z) | z
        · simp only at z; omega
        · have := s7 _ z; simp only at this; omega
        · simp only at z; omega
      · have hPk : P' k = P k := by rw [hP']; simp only [if_neg ek]
        rw [hPk]
        obtain ⟨z1, z2, z3⟩ := hc k hk1 (by omega)
        exact ⟨z1, z2.fr (z3.less fun _ z => .inl z) ⟨by omega, fH⟩, z3.go z2 fun j hj z => z.imp (av' j hj) id⟩
    · rw [wholeL_succ]
      refine s5.go (D := fun _ => False) ⟨by omega, fun _ _ _ => rfl⟩ (fun _ _ q => q) fun r c bb => bb.go (Y := fun j => avL ob wa j ∨ j = n2 + 17 ∨ j = n2 + 18) ⟨by omega, fun j hj hne => ?_⟩ (fun _ _ z => z) (fun j hj z => ?_)
      · exact s6 j (fun z => hne (.inl (.inr z))) (fun z => hne (.inr (.inl z))) (fun z => hne (.inr (.inr z)))
      · rcases z with z | z
        · exact .inl (.inl z)
        · exact .inr (.inr (s7 j z))

end Go.Proofs.Ytalfcokiooaliaa.T
