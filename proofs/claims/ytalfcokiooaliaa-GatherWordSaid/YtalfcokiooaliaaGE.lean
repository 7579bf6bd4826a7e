import Derived.Test.YtalfcokiooaliaaGD
set_option linter.unusedVariables false
set_option linter.unusedSimpArgs false
namespace Go.Proofs.Ytalfcokiooaliaa.T
open Go Go.RowKit Go.Proofs

/-! ### lists that may differ -/
theorem sbx_loop (call : YldF → CallF) (lf : Nat) {l r : List Nat} (hlr : l.length = r.length) (hl : l.length ≤ 1000000000000000) {sa ta : Option (Nat × Nat)} (sc tc : Bool) {h : AHeap} {n1 n2 : Nat} (hs : Sl h n1 sa l.length 1 (ints .u8 (nints l))) (ht : Sl h n2 ta r.length 1 (ints .u8 (nints r))) (m : Nat) :
    ∀ (f i nx : Nat), i + m = l.length → m < f → (∀ j (hj : j < i) (h1 : j < l.length), l[j] = r[j]'(by omega)) → ∃ b nx', nx ≤ nx' ∧ F13_L1 call Y0 lf f sa l.length sc ta r.length tc (i : Int) h nx = some (.bool b, h, nx') ∧ (b = true ↔ l = r) := by
  induction m with
  | zero =>
    intro f i nx e hf hk
    obtain ⟨f, rfl⟩ : ∃ m, f = m + 1 := ⟨f - 1, by omega⟩
    obtain rfl : i = l.length := by omega
    rw [F13_L1_eq, if_neg (by simp)]
    exact ⟨true, _, by omega, rfl, by simp only [true_iff]; exact List.ext_getElem hlr fun j h1 h2 => hk j h1 h1⟩
  | succ m ih =>
    intro f i nx e hf hk
    obtain ⟨f, rfl⟩ : ∃ m, f = m + 1 := ⟨f - 1, by omega⟩
    have hi : i < l.length := by omega
    rw [F13_L1_eq, if_pos (by simpa using hi), hs.readN rfl hi]
    simp only [mst_]
    rw [ht.readN rfl (by omega)]
    simp only [mst_]
    by_cases he : l[i] = r[i]'(by omega)
    · rw [if_neg (by simp [he]), wsucc (by omega)]
      obtain ⟨b, nx', l', e', hb⟩ := ih f (i + 1) (nx + 16) (by omega) (by omega) fun j hj h1 => by
        by_cases ej : j = i
        · subst ej; exact he
        · exact hk j (by omega) h1
      exact ⟨b, nx', by omega, e', hb⟩
    · rw [if_pos (by simp; omega)]
      exact ⟨false, _, by omega, rfl, by simp only [Bool.false_eq_true, false_iff]; intro z; subst z; exact he rfl⟩
theorem sb_any {f : Nat} {l r : List Nat} {w : Nat} (hl : l.length = w) (hr : r.length = w) (hf : w + 2 ≤ f) (hw : w ≤ 1000000) {sa ta : Option (Nat × Nat)} (sc tc : Bool) {h : AHeap} {n1 n2 : Nat} (hs : Sl h n1 sa w 1 (ints .u8 (nints l))) (ht : Sl h n2 ta w 1 (ints .u8 (nints r))) (nx : Nat) :
    ∃ b nx', nx ≤ nx' ∧ callP Try.prog keepT f Y0 13 [.slice sa w sc, .slice ta w tc] h nx = some (.bool b, h, nx') ∧ (b = true ↔ l = r) := by
  obtain ⟨f, rfl⟩ : ∃ m, f = m + 1 := ⟨f - 1, by omega⟩
  rw [F13_eq, if_neg (by simp)]
  have := sbx_loop (callP Try.prog keepT f) f (l := l) (r := r) (by omega) (by omega) sc tc (by rw [hl]; exact hs) (by rw [hr]; exact ht) l.length f 0 (nx + 7) (by omega) (by omega) (fun j hj => by omega)
  rw [hl, hr, show ((0 : Nat) : Int) = 0 from rfl] at this
  obtain ⟨b, nx', l', e', hb⟩ := this
  exact ⟨b, nx', by omega, e', hb⟩

theorem flat_set1 {es : Nat} {v : AV} : ∀ {rows : List (List AV)} {i f : Nat} {r : List AV}, (∀ r ∈ rows, r.length = es) → rows[i]? = some r → f < es → rows.flatten.set (i * es + f) v = (rows.set i (r.set f v)).flatten
  | [], i, f, r, _, hi, _ => by simp at hi
  | q :: rows, i, f, r, h, hi, hf => by
    have hq := h q List.mem_cons_self
    cases i with
    | zero =>
      simp at hi; subst hi
      simp only [Nat.zero_mul, Nat.zero_add, List.flatten_cons, List.set_cons_zero]
      rw [List.set_append_left _ _ (by omega)]
    | succ i =>
      simp at hi
      simp only [List.flatten_cons, List.set_cons_succ]
      rw [← flat_set1 (fun u hu => h u (List.mem_cons_of_mem _ hu)) hi hf, List.set_append_right _ _ (by rw [hq, Nat.add_mul]; omega)]
      congr 2
      rw [hq, Nat.add_mul]; omega
theorem prows_data {P : Nat → Tri} {lost : Nat → Bool} {N c : Nat} {t : Tri} (hc : c < N) (hl : lost c = false) : (prows P lost N).flatten.set (c * 2 + 1) (tcell t) = (prows (fun j => if j = c then t else P j) lost N).flatten := by
  rw [flat_set1 (prows_row _ _ _) (prows_get hc) (by omega)]
  congr 1
  apply List.ext_getElem
  · simp [prows]
  · intro j h1 h2
    rw [List.getElem_set]
    simp only [prows, List.getElem_map, List.getElem_range]
    by_cases e : c = j
    · subst e; simp [prow, hl]
    · rw [if_neg e]; unfold prow; simp only [if_neg (Ne.symm e)]

/-! ### a column is changed -/
theorem xor_small8 {a : Nat} {b : Int} (ha : a < 256) (h0 : 0 ≤ b) (h1 : b < 256) : ∃ c : Nat, c < 256 ∧ Go.bits .xor .u8 (a : Int) b = (c : Int) := by
  obtain ⟨b, rfl⟩ : ∃ n : Nat, b = (n : Int) := ⟨b.toNat, by omega⟩
  exact ⟨a ^^^ b, Gf.xor_lt ha (by omega), g_xor8 ha (by omega)⟩

end Go.Proofs.Ytalfcokiooaliaa.T

namespace Go.Proofs.Ytalfcokiooaliaa.T
open Go Go.RowKit Go.Proofs

end Go.Proofs.Ytalfcokiooaliaa.T

namespace Go.Proofs.Ytalfcokiooaliaa.T
open Go Go.RowKit Go.Proofs

end Go.Proofs.Ytalfcokiooaliaa.T

namespace Go.Proofs.Ytalfcokiooaliaa.T
open Go Go.RowKit Go.Proofs

/-! ### a changed word changes the sum -/
theorem fold_a (ws : List Int) : ∀ s : B.Sm, (s.fold ws).a = s.a + ws.sum := by
  induction ws with
  | nil => intro s; show s.a = _; simp
  | cons w ws ih =>
    intro s
    show ((s.step w).fold ws).a = _
    rw [ih, List.sum_cons]
    show s.a + w + ws.sum = _
    omega
theorem sA_eq (l : List Nat) : sA l = wrapA .i64 (B.wordsOf (nints l)).sum := by
  show wrapA .i64 (B.Sm.zero.fold (B.wordsOf (nints l))).a = _
  rw [fold_a]
  show wrapA .i64 (0 + _) = _
  rw [Int.zero_add]
theorem nints_app (a b : List Nat) : nints (a ++ b) = nints a ++ nints b := by simp [nints]
theorem words4 {p u s : List Nat} {m : Nat} (hp : p.length = 4 * m) (hu : u.length = 4) : (B.wordsOf (nints (p ++ (u ++ s)))).sum = (B.wordsOf (nints p)).sum + ((B.wordsOf (nints u)).sum + (B.wordsOf (nints s)).sum) := by
  rw [nints_app, nints_app, B.wordsOf_append m _ _ (by rw [nints_len]; exact hp), B.wordsOf_append 1 _ _ (by rw [nints_len]; exact hu), List.sum_append, List.sum_append]
theorem word_ne {u v : List Nat} (hu : u.length = 4) (hv : v.length = 4) (su : Small u) (sv : Small v) (hne : u ≠ v) : (B.wordsOf (nints u)).sum ≠ (B.wordsOf (nints v)).sum ∧ 0 ≤ (B.wordsOf (nints u)).sum ∧ (B.wordsOf (nints u)).sum < 4294967296 ∧ 0 ≤ (B.wordsOf (nints v)).sum ∧ (B.wordsOf (nints v)).sum < 4294967296 := by
  match u, v, hu, hv, su, sv, hne with
  | [a, b, c, d], [a', b', c', d'], _, _, su, sv, hne =>
    have a1 := su a (by simp); have b1 := su b (by simp); have c1 := su c (by simp); have d1 := su d (by simp)
    have a2 := sv a' (by simp); have b2 := sv b' (by simp); have c2 := sv c' (by simp); have d2 := sv d' (by simp)
    have h1 : (B.wordsOf (nints [a, b, c, d])).sum = (a : Int) + b * 256 + c * 65536 + d * 16777216 := by simp [nints, B.wordsOf, B.wordOf]
    have h2 : (B.wordsOf (nints [a', b', c', d'])).sum = (a' : Int) + b' * 256 + c' * 65536 + d' * 16777216 := by simp [nints, B.wordsOf, B.wordOf]
    rw [h1, h2]
    refine ⟨fun e => hne ?_, by omega, by omega, by omega, by omega⟩
    have : a = a' ∧ b = b' ∧ c = c' ∧ d = d' := by omega
    obtain ⟨rfl, rfl, rfl, rfl⟩ := this
    rfl
theorem sA_ne {p u v s : List Nat} {m : Nat} (hp : p.length = 4 * m) (hu : u.length = 4) (hv : v.length = 4) (su : Small u) (sv : Small v) (hne : u ≠ v) : sA (p ++ (u ++ s)) ≠ sA (p ++ (v ++ s)) := by
  obtain ⟨h1, h2, h3, h4, h5⟩ := word_ne hu hv su sv hne
  rw [sA_eq, sA_eq, words4 hp hu, words4 hp hv]
  generalize (B.wordsOf (nints u)).sum = x at *
  generalize (B.wordsOf (nints v)).sum = y at *
  generalize (B.wordsOf (nints p)).sum = P
  generalize (B.wordsOf (nints s)).sum = Q
  show wrap64 _ ≠ wrap64 _
  unfold wrap64
  omega

/-! ### the bytes of a try that trusts all -/
def catV (v : Nat → List Nat) (p i : Nat) : List Nat := ((List.range i).map fun j => v (p + j)).flatten
theorem catV_succ (v : Nat → List Nat) (p i : Nat) : catV v p (i + 1) = catV v p i ++ v (p + i) := by simp [catV, List.range_succ]
theorem catV_len {v : Nat → List Nat} {d p n : Nat} : ∀ i, (∀ j, j < i → (v (p + j)).length = bw d p n (p + j)) → (catV v p i).length = offC d p n i * 128
  | 0, _ => by simp [catV, offC]
  | i + 1, h => by
    rw [catV_succ, List.length_append, catV_len i fun j hj => h j (by omega), h i (by omega)]
    show _ = (offC d p n i + lenC d p n (p + i)) * 128
    unfold bw; omega
theorem catV_congr {v v' : Nat → List Nat} {p : Nat} : ∀ i, (∀ j, j < i → v (p + j) = v' (p + j)) → catV v p i = catV v' p i
  | 0, _ => rfl
  | i + 1, h => by rw [catV_succ, catV_succ, catV_congr i fun j hj => h j (by omega), h i (by omega)]
/-- What lies behind a column. -/
theorem catV_split {v v' : Nat → List Nat} {p e : Nat} : ∀ i, e < i → (∀ j, j < i → j ≠ e → v (p + j) = v' (p + j)) → ∃ s, catV v p i = catV v p e ++ (v (p + e) ++ s) ∧ catV v' p i = catV v p e ++ (v' (p + e) ++ s)
  | 0, h, _ => by omega
  | i + 1, h, k => by
    by_cases he : e = i
    · subst he
      refine ⟨[], ?_, ?_⟩
      · rw [catV_succ, List.append_nil]
      · rw [catV_succ, List.append_nil, catV_congr e fun j hj => (k j (by omega) (by omega)).symm]
    · obtain ⟨s, s1, s2⟩ := catV_split i (e := e) (by omega) fun j hj hne => k j (by omega) hne
      refine ⟨s ++ v (p + i), ?_, ?_⟩
      · rw [catV_succ, s1]; simp
      · rw [catV_succ, s2, ← k i (by omega) (by omega)]; simp

theorem tryB_nil {d p n : Nat} (g : Geo d p n) {v : Nat → List Nat} {lost : Nat → Bool} (hl : ∀ c, c < colN d p n → lost c = false) (hv : ∀ c, c < colN d p n → (v c).length = bw d p n c) (us : List Nat) : tryB d p n v lost [] us = catV v p (colN d p n - p) := by
  have gp := g.pN
  have g8 := g.N8
  have : ∀ i, i ≤ colN d p n - p → flatO (solA (gP (colN d p n) p []) (DaV (colN d p n) p (bw d p n 0) v lost) (colN d p n - p) (bw d p n 0) us us.length) d p n i = catV v p i := by
    intro i
    induction i with
    | zero => intro _; simp [flatO, catV]
    | succ i ih =>
      intro h
      rw [flatO_succ, catV_succ, ih (by omega), solA_get (by omega), if_neg (by simp [gP])]
      have hc : colOf (colN d p n) p i = p + i := by unfold colOf; rw [if_pos (by omega)]
      unfold DaV fillV
      rw [hc, if_neg (by simp [hl (p + i) (by omega)]), padW_take (hv _ (by omega))]
  exact this _ (Nat.le_refl _)
theorem Pd_cat {Pd : List Nat} {d p n : Nat} (g : Geo d p n) (hP : Pd.length = n * 128) : catV (colV Pd d p n) p (colN d p n - p) = Pd := by
  have gp := g.pN
  have : ∀ i, i ≤ colN d p n - p → catV (colV Pd d p n) p i = Pd.take (offC d p n i * 128) := by
    intro i
    induction i with
    | zero => intro _; simp [catV, offC]
    | succ i ih =>
      intro h
      rw [catV_succ, ih (by omega)]
      have hv : colV Pd d p n (p + i) = pieceC Pd d p n i := by unfold colV; rw [if_neg (by omega)]; congr 1; omega
      rw [hv]
      show _ = Pd.take ((offC d p n i + lenC d p n (p + i)) * 128)
      unfold pieceC bw
      rw [Nat.add_mul, List.take_add]
  rw [this _ (Nat.le_refl _), g.sum, List.take_of_length_le (by omega)]

/-- One changed word of one data column: the sum is another one. -/
theorem word_sum {Pd : List Nat} {d p n : Nat} (g : Geo d p n) (hP : Pd.length = n * 128) (sP : Small Pd) {v : Nat → List Nat} {lost : Nat → Bool} {c o : Nat} (hc : p ≤ c) (hcN : c < colN d p n) (hl : ∀ j, j < colN d p n → lost j = false) (hv : ∀ j, j < colN d p n → j ≠ c → v j = colV Pd d p n j) (hw : (v c).length = bw d p n c) (sv : Small (v c)) (ho : o + 4 ≤ bw d p n c) (ho4 : o % 4 = 0) (h1 : (v c).take o = (colV Pd d p n c).take o) (h2 : (v c).drop (o + 4) = (colV Pd d p n c).drop (o + 4)) (hne : v c ≠ colV Pd d p n c) (us : List Nat) :
    sA (tryB d p n v lost [] us) ≠ sA Pd := by
  have gp := g.pN
  have lc : (colV Pd d p n c).length = bw d p n c := colV_len g hP hcN
  have hvl : ∀ j, j < colN d p n → (v j).length = bw d p n j := fun j hj => by
    by_cases e : j = c
    · subst e; exact hw
    · rw [hv j hj e]; exact colV_len g hP hj
  rw [tryB_nil g hl hvl us]
  rw [← Pd_cat g hP]
  obtain ⟨s, s1, s2⟩ := catV_split (v := v) (v' := colV Pd d p n) (p := p) (e := c - p) (colN d p n - p) (by omega) fun j hj hne => hv (p + j) (by omega) (by omega)
  rw [show p + (c - p) = c from by omega] at s1 s2
  have hpre : (catV v p (c - p)).length = offC d p n (c - p) * 128 := catV_len _ fun j hj => hvl _ (by omega)
  have split : ∀ x : List Nat, x.length = bw d p n c → x = x.take o ++ ((x.drop o).take 4 ++ x.drop (o + 4)) := fun x hx => by
    have e1 : (x.drop o).take 4 ++ x.drop (o + 4) = x.drop o := by
      have := List.take_append_drop 4 (x.drop o)
      rwa [List.drop_drop] at this
    rw [e1, List.take_append_drop]
  rw [s1, s2]
  have e1 := split (v c) hw
  have e2 := split (colV Pd d p n c) lc
  rw [h1, h2] at e1
  have sO := colV_small sP d p n c
  have hu : (((v c).drop o).take 4).length = 4 := by rw [List.length_take, List.length_drop]; omega
  have hu' : (((colV Pd d p n c).drop o).take 4).length = 4 := by rw [List.length_take, List.length_drop]; omega
  have hT : ((colV Pd d p n c).take o).length = o := by rw [List.length_take]; omega
  have su : Small (((v c).drop o).take 4) := fun x hx => sv x (List.mem_of_mem_drop (List.mem_of_mem_take hx))
  have su' : Small (((colV Pd d p n c).drop o).take 4) := fun x hx => sO x (List.mem_of_mem_drop (List.mem_of_mem_take hx))
  have une : ((v c).drop o).take 4 ≠ ((colV Pd d p n c).drop o).take 4 := fun h => by
    rw [h, ← e2] at e1
    exact hne e1
  generalize ((v c).drop o).take 4 = u at *
  generalize ((colV Pd d p n c).drop o).take 4 = u' at *
  generalize (colV Pd d p n c).take o = T at *
  generalize (colV Pd d p n c).drop (o + 4) = Rr at *
  have key := sA_ne (p := catV v p (c - p) ++ T) (u := u) (v := u') (s := Rr ++ s) (m := offC d p n (c - p) * 32 + o / 4) (by rw [List.length_append, hpre, hT]; omega) hu hu' su su' une
  rw [e1, e2]
  simp only [List.append_assoc] at key ⊢
  exact key

end Go.Proofs.Ytalfcokiooaliaa.T

namespace Go.Proofs.Ytalfcokiooaliaa.T
open Go Go.RowKit Go.Proofs

/-! ### the law of the changed word -/
theorem word_loop (call : YldF → CallF) (lf : Nat) {bys : List Int} (hby : bys.length ≤ 1000000000000000) (h8 : ∀ x ∈ bys, 0 ≤ x ∧ x < 256) {ba : Option (Nat × Nat)} (bc : Bool) (x15 x16 x17 : Int) (X18 X19 X20 : Option (Nat × Nat)) (N18 N19 : Nat) (C18 C19 : Bool) (x22 : Int) {w yid o : Nat} (hw : w ≤ 100000) (ho : o + 4 ≤ w) (yc : Bool) {OO : List Nat} {h0 : AHeap} {n0 : Nat} (sb : Sl h0 n0 ba bys.length 1 (ints .u8 bys)) (hy : n0 ≤ yid) (m : Nat) :
    ∀ (f i : Nat) (Y : List Nat) (h : AHeap) (nx : Nat), i + m = 4 → m < f → yid < nx → Ext h0 n0 h nx → Y.length = w → Small Y → Y.take o = OO.take o → Y.drop (o + 4) = OO.drop (o + 4) → h yid = some ⟨ints .u8 (nints Y), 1, true⟩ →
    ∃ (Y' : List Nat) (h' : AHeap) (nx' : Nat), F5_L2 call Y0 lf f ba bys.length bc x15 x16 x17 X18 N18 C18 X19 N19 C19 X20 x22 (some (yid, 0)) w yc (o : Int) (i : Int) h nx = F5_J4 call Y0 lf x15 x16 x17 X18 N18 C18 X19 N19 C19 X20 x22 (some (yid, 0)) w yc h' nx' ∧ yid < nx' ∧ nx ≤ nx' ∧ (∀ j, j ≠ yid → h' j = h j) ∧ Y'.length = w ∧ Small Y' ∧ Y'.take o = OO.take o ∧ Y'.drop (o + 4) = OO.drop (o + 4) ∧ h' yid = some ⟨ints .u8 (nints Y'), 1, true⟩ := by
  induction m with
  | zero =>
    intro f i Y h nx e hf hyl x hY sY t1 t2 hb
    obtain ⟨f, rfl⟩ : ∃ m, f = m + 1 := ⟨f - 1, by omega⟩
    obtain rfl : i = 4 := by omega
    rw [F5_L2_eq, if_neg (by simp)]
    exact ⟨Y, h, nx + 8, rfl, by omega, by omega, fun _ _ => rfl, hY, sY, t1, t2, hb⟩
  | succ m ih =>
    intro f i Y h nx e hf hyl x hY sY t1 t2 hb
    obtain ⟨f, rfl⟩ : ∃ m, f = m + 1 := ⟨f - 1, by omega⟩
    rw [F5_L2_eq, if_pos (by simp; omega)]
    by_cases hib : i < bys.length
    · have hb8 := h8 _ (List.getElem_mem hib)
      obtain ⟨c, c8, ec⟩ := xor_small8 (sY _ (List.getElem_mem (show o + i < Y.length by omega))) hb8.1 hb8.2
      rw [if_pos (by simpa using hib), F5_J3_eq]
      rw [show wrapA .i64 ((o : Int) + (i : Int)) = ((o + i : Nat) : Int) from by rw [wA (by omega) (by omega)]; omega]
      simp only [mst_]
      rw [if_pos ⟨by omega, by omega⟩, show 0 + Int.toNat ((o + i : Nat) : Int) * 1 = o + i from by omega, ld_at hb (nints_at (List.getElem?_eq_getElem (show o + i < Y.length by omega)))]
      simp only [mst_]
      rw [(sb.ext x).readI hib]
      simp only [mst_]
      rw [ec, if_pos ⟨by omega, by omega⟩, st_to hb (v := .int .u8 (c : Int)) rfl (by rw [nintsL]; omega) (cs' := ints .u8 (nints (Y.set (o + i) c))) nints_set, wsucc (by omega)]
      obtain ⟨Y', h', nx', z1, z2, z3, z4, z5, z6, z7, z8, z9⟩ := ih f (i + 1) (Y.set (o + i) c) (h.put yid (some ⟨ints .u8 (nints (Y.set (o + i) c)), 1, true⟩)) (nx + 8 + 16) (by omega) (by omega) (by omega) ⟨by have := x.1; omega, fun j hj => by rw [put_ne (by omega), x.2 j hj]⟩ (by rw [List.length_set]; exact hY) (fun z hz => by
        rcases List.mem_or_eq_of_mem_set hz with hz | rfl
        · exact sY z hz
        · exact c8) (by rw [List.take_set_of_le (by omega)]; exact t1) (by rw [List.drop_set_of_lt (by omega)]; exact t2) (put_same _ _ _)
      exact ⟨Y', h', nx', z1, z2, by omega, fun j hj => by rw [z4 j hj, put_ne hj], z5, z6, z7, z8, z9⟩
    · rw [if_neg (by simpa using hib)]
      exact ⟨Y, h, nx + 8, rfl, by omega, by omega, fun _ _ => rfl, hY, sY, t1, t2, hb⟩

theorem kept_none (N : Nat) : kept (fun _ => false) N = List.range N := by simp [kept]
theorem lost_none (N : Nat) : lostL (fun _ => false) N = [] := by simp [lostL]
theorem cnt_none (N : Nat) : cnt (fun _ => false) N = 0 := by rw [← lostL_len, lost_none]; rfl
theorem pick_range {N : Nat} {q : List Nat} (h : ∀ x ∈ q, x < N) : pickK (List.range N) q = q := by
  unfold pickK
  conv => rhs; rw [← List.map_id q]
  refine List.map_congr_left fun x hx => ?_
  simp [List.getD, List.getElem?_range (h x hx)]
theorem picks_one {n : Nat} : picks n 1 0 = (List.range n).map fun x => [x] := by
  have : ∀ d x, picksL (fun _ => [[]]) d x = (List.range d).map fun y => [x + y] := by
    intro d
    induction d with
    | zero => intro x; rfl
    | succ d ih =>
      intro x
      rw [List.range_succ_eq_map, List.map_cons, List.map_map]
      show [[x]] ++ picksL _ d (x + 1) = _
      rw [ih]
      simp only [List.singleton_append, Nat.add_zero, List.cons.injEq, true_and]
      refine List.map_congr_left fun y _ => ?_
      simp; omega
  show picksL (picks n 0) (n - 0 - 0) 0 = _
  have e : picks n 0 = fun _ => [[]] := rfl
  rw [e, this]; simp

theorem GatherWord_run (h : AHeap) (nx : Nat) (x0 : Int) (_ : (Lit.int .i64 x0).wf = true) (x1 : Int) (_ : (Lit.int .i64 x1).wf = true) (x2 : Int) (_ : (Lit.int .i64 x2).wf = true)
    (l3 : List Int) (g3 : l3.length * 1 ≤ 140737488351232) (w3 : ∀ n ∈ l3, (Lit.int .u8 n).wf = true) (a3 : Option (Nat × Nat)) (sl3 : Sl h nx a3 l3.length 1 (l3.map (AV.int .u8)))
    (x4 : Int) (_ : (Lit.int .i64 x4).wf = true) (x5 : Int) (_ : (Lit.int .i64 x5).wf = true)
    (l6 : List Int) (g6 : l6.length * 1 ≤ 140737488351232) (w6 : ∀ n ∈ l6, (Lit.int .u8 n).wf = true) (a6 : Option (Nat × Nat)) (sl6 : Sl h nx a6 l6.length 1 (l6.map (AV.int .u8))) :
    ∃ f h' nx', callP Try.prog keepT f Y0 5 [.int .i64 x0, .int .i64 x1, .int .i64 x2, .slice a3 l3.length false, .int .i64 x4, .int .i64 x5, .slice a6 l6.length false] h nx = some (.bool true, h', nx') := by
  obtain ⟨k, hk⟩ : ∃ k, k = 200000 := ⟨_, rfl⟩
  refine ⟨k + 1, ?_⟩
  obtain ⟨b3, rfl, s3, z3⟩ := ofB w3
  rw [nints_len] at sl3 g3 ⊢
  have sl3 : Sl h nx a3 b3.length 1 (ints .u8 (nints b3)) := sl3
  clear w3 z3
  obtain ⟨dI, pI, n1, l1, hd, hd', hp, hp', hpd, e1⟩ := B.shape_spec (k := k) (by omega) x0 x1 h (nx + 9)
  obtain ⟨d, rfl⟩ : ∃ d : Nat, dI = (d : Int) := ⟨dI.toNat, by omega⟩
  obtain ⟨p, rfl⟩ : ∃ p : Nat, pI = (p : Int) := ⟨pI.toNat, by omega⟩
  obtain ⟨n2, e2, l2⟩ := picked_spec (k := k) (by omega) x2 60000 h (n1 + 3) (by omega) (by omega)
  have q0 := Int.emod_nonneg x2 (show (60000 : Int) ≠ 0 by omega)
  have q1 := Int.emod_lt_of_pos x2 (show (0 : Int) < 60000 by omega)
  obtain ⟨a, hae⟩ : ∃ a : Nat, x2 % 60000 = (a : Int) := ⟨(x2 % 60000).toNat, by omega⟩
  rw [hae] at e2 q0 q1
  have xa0 : Ext h nx h (n2 + 3) := ⟨by omega, fun _ _ => rfl⟩
  obtain ⟨D, oB, cB, hB, nB, sD', D1, D2, eB, xB, slB⟩ := Block_spec (f := k) (by omega) s3 (by omega) false (sl3.ext xa0)
  have yB := xB.1
  obtain ⟨m, hm⟩ : ∃ m, D.length = m := ⟨_, rfl⟩
  rw [hm] at D1 D2 eB slB
  obtain ⟨n, hn⟩ : ∃ n, n = (m + 127) / 128 := ⟨_, rfl⟩
  have g := geo d p n (by omega) (by omega) (by omega) (by omega) (by omega) (by omega) (by omega)
  have gp := g.pN
  have g8 := g.N8
  obtain ⟨P, xa, xc, hL, nL, eL, xL, oL, cL, aL, lL⟩ := laid_spec (f := k) (by omega) (d := d) (p := p) (a := a) (m := m) (n := n) (by omega) (by omega) (by omega) (by omega) (by omega) (by omega) D1 (by omega) hn hm sD' cB (slB.ext (nx' := nB + 13) ⟨by omega, fun _ _ => rfl⟩)
  have yL := xL.1
  obtain ⟨pid, hxa, pl, pb⟩ := PRow.blk oL (by omega)
  have pid0 := lL pid ⟨0, hxa⟩
  subst hxa
  rw [F5_eq, e1]
  simp only [mst_]
  rw [e2]
  simp only [mst_]
  rw [eB]
  simp only [mst_]
  rw [eL]
  simp only [mst_]
  rw [st_all (put_same _ _ _) (by simp) (by simp) (by simp [allOne, AV.one])]
  obtain ⟨S, hS⟩ : ∃ S, S = [AV.int .i64 (sA (padW (n * 128) D)), AV.int .i64 (sB (padW (n * 128) D)), AV.int .i64 (sC (padW (n * 128) D)), AV.int .i64 (sD (padW (n * 128) D))] := ⟨_, rfl⟩
  rw [← hS]
  obtain ⟨H, hH⟩ : ∃ H, H = AHeap.put (AHeap.put hL (nB + 9) (some ⟨[.int .i64 0, .int .i64 0, .int .i64 0, .int .i64 0], 4, true⟩)) (nB + 9) (some ⟨S, 4, true⟩) := ⟨_, rfl⟩
  rw [← hH]
  have pH : ∀ j, j ≠ nB + 9 → H j = hL j := fun j hj => by rw [hH, put_ne hj, put_ne hj]
  have bS : H (nB + 9) = some ⟨S, 4, true⟩ := by rw [hH, put_same]
  have bP : H pid = some ⟨(prows P (fun _ => false) (colN d p n)).flatten, 2, true⟩ := by rw [pH pid (by omega), pb]
  have xH : Ext h nx H (nL + 3) := ⟨by omega, fun j hj => by rw [pH j (by omega), xL.2 j (by omega), xB.2 j (by omega)]⟩
  have sl6' : Sl h nx a6 l6.length 1 (ints .u8 l6) := sl6
  have h68 : ∀ x ∈ l6, 0 ≤ x ∧ x < 256 := fun x hx => by
    have := w6 x hx
    simp [Lit.wf, IntKind.min, IntKind.max, IntKind.signed, IntKind.bits] at this
    omega
  obtain ⟨N, hN⟩ : ∃ N, colN d p n = N := ⟨_, rfl⟩
  have gp' := gp
  have g8' := g8
  rw [hN] at gp' g8'
  have hPl : (padW (n * 128) D).length = n * 128 := padW_len (by omega)
  have sPd : Small (padW (n * 128) D) := padW_small sD'
  have W4 := bw_max g
  obtain ⟨Pd, hPd⟩ : ∃ Pd, Pd = padW (n * 128) D := ⟨_, rfl⟩
  -- the column
  obtain ⟨n5, e5, l5⟩ := picked_spec (k := k) (by omega) x4 (N : Int) H (nL + 7) (by omega) (by omega)
  obtain ⟨c, hc⟩ : ∃ c : Nat, x4 % (N : Int) = (c : Int) := ⟨(x4 % (N : Int)).toNat, by have := Int.emod_nonneg x4 (b := (N : Int)) (by omega); omega⟩
  have hcN : c < N := by have := Int.emod_lt_of_pos x4 (b := (N : Int)) (by omega); omega
  rw [hc] at e5
  obtain ⟨c1, c2, c3⟩ := cL c (by omega)
  have bwc := bw_le g (c := c) (by omega)
  have bwp := bw_pos g (c := c) (by omega)
  obtain ⟨w, hw⟩ : ∃ w, bw d p n c = w := ⟨_, rfl⟩
  have hw4 : w % 4 = 0 ∧ 4 ≤ w := by unfold bw at hw bwp; omega
  rw [hw] at c1 c2 c3 bwc bwp
  have hrow : (prows P (fun _ => false) (colN d p n)).flatten[c * 2 + 1]? = some (tcell (P c)) := by
    rw [flat_get (prows_row _ _ _) (prows_get (by omega)) (by omega)]; simp [prow]
  rw [hN, e5]
  simp only [mst_]
  rw [if_pos ⟨by omega, by omega⟩, show 0 + Int.toNat (c : Int) * 2 + 1 = c * 2 + 1 from by omega, ld_at bP hrow]
  unfold tcell
  simp only [mst_]
  rw [c1, if_neg (by simp; omega), if_pos ⟨by omega, by omega⟩, ld_at bP hrow]
  unfold tcell
  simp only [mst_]
  rw [c1, if_neg (by rw [Int.tmod_eq_emod_of_nonneg (by omega)]; simp; omega), F5_J1_eq]
  simp only [mst_]
  rw [if_pos ⟨by omega, by omega⟩, show 0 + Int.toNat (c : Int) * 2 + 1 = c * 2 + 1 from by omega, ld_at bP hrow]
  unfold tcell
  simp only [mst_]
  rw [c1]
  have xLH : Frm (fun j => j = nB + 9) hL nL H (n5 + 17) := ⟨by omega, fun j hj hne => pH j hne⟩
  have c3H : Sl H (n5 + 17) (P c).1 w 1 (ints .u8 (nints (colV Pd d p n c))) := by
    have av := aL c (by omega)
    rw [hw] at av
    rw [hPd]
    exact c3.fr (av.less fun z hz => .inr (by omega)) xLH
  obtain ⟨rd, s1⟩ := c3H.src'
  obtain ⟨E, f1, f2, f3, f4⟩ := copyOf (h := H) (nx := n5 + 17) (n := w) (es := 1) (bytes := 1) (id := n5 + 17 + 5) (vs := ints .u8 (nints (colV Pd d p n c))) (rd := rd) c3H.1 (growOk_of (by omega) (by omega)) (by omega)
  obtain ⟨yid, hy, y0, y1, yb⟩ : ∃ yid, E.a = some (yid, 0) ∧ n5 + 17 ≤ yid ∧ yid < n5 + 17 + 5 + 1 ∧ (H.puts E.sets) yid = some ⟨ints .u8 (nints (colV Pd d p n c)), 1, true⟩ := by
    rcases f3.2 with ⟨_, z⟩ | z
    · omega
    · exact z
  obtain ⟨H5, hH5⟩ : ∃ H5, H5 = H.puts E.sets := ⟨_, rfl⟩
  rw [← hH5] at yb f4
  rw [s1, some_bind, f1, some_bind, f2, hy, ← hH5]
  obtain ⟨n6, e6, l6'⟩ := picked_spec (k := k) (by omega) x5 ((w / 4 : Nat) : Int) H5 (n5 + 17 + 14) (by omega) (by omega)
  obtain ⟨at_, hat⟩ : ∃ at_ : Nat, x5 % ((w / 4 : Nat) : Int) = (at_ : Int) := ⟨(x5 % ((w / 4 : Nat) : Int)).toNat, by have := Int.emod_nonneg x5 (b := ((w / 4 : Nat) : Int)) (by omega); omega⟩
  have hatl : at_ < w / 4 := by have := Int.emod_lt_of_pos x5 (b := ((w / 4 : Nat) : Int)) (by omega); omega
  rw [hat] at e6
  rw [show wrapA .i64 (Int.tdiv ((w : Nat) : Int) 4) = ((w / 4 : Nat) : Int) from by rw [Int.tdiv_eq_ediv_of_nonneg (by omega), wA (by omega) (by omega)]; omega, e6]
  simp only [mst_]
  rw [show wrapA .i64 (4 * (at_ : Int)) = ((4 * at_ : Nat) : Int) from by rw [wA (by omega) (by omega)]; omega]
  obtain ⟨o, ho⟩ : ∃ o, o = 4 * at_ := ⟨_, rfl⟩
  rw [← ho]
  have how : o + 4 ≤ w := by omega
  have sO := colV_small (Pd := Pd) (by rw [hPd]; exact sPd) d p n c
  have lO : (colV Pd d p n c).length = w := by rw [hPd]; exact c2
  obtain ⟨Y', h2, n7, z1, z2, z3, z4, z5, z6, z7, z8, z9⟩ := word_loop (callP Try.prog keepT k) k (bys := l6) (by omega) h68 (ba := a6) false (d : Int) (p : Int) (a : Int) oB (some (pid, 0)) (some (nB + 9, 0)) m N cB xc (c : Int) (w := w) (yid := yid) (o := o) (by omega) how E.c (OO := colV Pd d p n c) (h0 := H5) (n0 := n5 + 17) ((sl6'.ext xH).ext (nx' := n5 + 17) ⟨by omega, fun j hj => f4.2 j (by omega)⟩) y0 4 k 0 (colV Pd d p n c) H5 (n6 + 1) (by omega) (by omega) (by omega) ⟨by omega, fun _ _ => rfl⟩ lO sO rfl rfl yb
  rw [show ((0 : Nat) : Int) = 0 from rfl] at z1
  rw [z1, F5_J4_eq]
  have k2 : ∀ j, j < n5 + 17 → h2 j = H j := fun j hj => by rw [z4 j (by omega), f4.2 j hj]
  have bP2 : h2 pid = some ⟨(prows P (fun _ => false) N).flatten, 2, true⟩ := by rw [k2 pid (by omega), bP, hN]
  rw [hN] at hrow
  have hbw : ∀ j, j < N → bw d p n j ≤ bw d p n 0 := fun j hj => bw_le g (by omega)
  have sY2 : Sl h2 (n7 + 8) (some (yid, 0)) w 1 (ints .u8 (nints Y')) := Sl.ofBlk z9 (by simp [nints_len, z5]) (by omega)
  have sO2 : Sl h2 (n7 + 8) (P c).1 w 1 (ints .u8 (nints (colV Pd d p n c))) := c3H.ext ⟨by omega, k2⟩
  obtain ⟨b, n8, l8, e8, hb⟩ := sb_any (f := k) z5 lO (by omega) (by omega) E.c (P c).2.2 sY2 sO2 (n7 + 8)
  simp only [mst_]
  rw [if_pos ⟨by omega, by omega⟩, show 0 + Int.toNat (c : Int) * 2 + 1 = c * 2 + 1 from by omega, ld_at bP2 hrow]
  unfold tcell
  simp only [mst_]
  rw [c1, e8]
  simp only [mst_]
  have fl := flat_len (prows_row P (fun _ => false) N)
  rw [prows_len] at fl
  rw [if_pos ⟨by omega, by omega⟩, st_to (v := .slice (some (yid, 0)) w E.c) bP2 rfl (by rw [fl]; omega) (prows_data (t := (some (yid, 0), w, E.c)) hcN rfl)]
  obtain ⟨P', hP'⟩ : ∃ P' : Nat → Tri, P' = fun j => if j = c then (some (yid, 0), w, E.c) else P j := ⟨_, rfl⟩
  obtain ⟨v', hv'⟩ : ∃ v' : Nat → List Nat, v' = fun j => if j = c then Y' else colV Pd d p n j := ⟨_, rfl⟩
  rw [← hP']
  obtain ⟨h3, hh3⟩ : ∃ h3, h3 = h2.put pid (some ⟨(prows P' (fun _ => false) N).flatten, 2, true⟩) := ⟨_, rfl⟩
  rw [← hh3]
  have p3 : ∀ j, j ≠ pid → h3 j = h2 j := fun j hj => by rw [hh3, put_ne hj]
  have b3' : h3 pid = some ⟨(prows P' (fun _ => false) N).flatten, 2, true⟩ := by rw [hh3, put_same]
  have bS3 : h3 (nB + 9) = some ⟨S, 4, true⟩ := by rw [p3 _ (by omega), k2 _ (by omega), bS]
  rw [ldr_all bS3 (by rw [hS]; rfl), hS]
  simp only [mst_]
  have vc : v' c = Y' := by rw [hv']; simp
  have vne : ∀ j, j ≠ c → v' j = colV Pd d p n j := fun j hj => by rw [hv']; simp only [if_neg hj]
  have cl : ColsL h3 (n8 + 21) (colN d p n) (bw d p n) v' (fun _ => false) P' := ⟨fun j hj _ => by
    by_cases ej : j = c
    · have e1 : P' j = (some (yid, 0), w, E.c) := by rw [hP']; simp only [if_pos ej]
      rw [e1, ej, vc, hw]
      exact ⟨rfl, z5, z6, Sl.ofBlk ((p3 yid (by omega)).trans z9) (by simp [nints_len, z5]) (by omega)⟩
    · have e1 : P' j = P j := by rw [hP']; simp only [if_neg ej]
      rw [e1, vne j ej]
      rw [hPd]
      refine ⟨(cL j hj).1, (cL j hj).2.1, colV_small sPd _ _ _ _, (cL j hj).2.2.fr (D := fun z => z = pid ∨ z = nB + 9) ((aL j hj).less fun z hz => hz.elim (fun hz => .inl ⟨0, by rw [hz]⟩) (fun hz => .inr (by omega))) ⟨by omega, fun z hz hne => ?_⟩⟩
      rw [p3 z (fun q => hne (.inl q)), k2 z (by omega), pH z (fun q => hne (.inr q))]⟩
  have spc : Sl h3 (n8 + 21) (some (pid, 0)) (colN d p n) 2 (prows P' (fun _ => false) (colN d p n)).flatten := by rw [hN]; exact Sl.pcs b3' (by omega)
  have sB3 : ∀ (h9 : AHeap) (n9 : Nat), (∀ j, j < n8 + 21 → h9 j = h3 j) → Sl h9 (n8 + 21 + n9) oB m 1 (ints .u8 (nints D)) := fun h9 n9 hk => slB.ext ⟨by omega, fun j hj => by rw [hk j (by omega), p3 j (by omega), k2 j (by omega), pH j (by omega), xL.2 j (by omega)]⟩
  have gnil : gsQ d p n (fun _ => false) [] = [] := by simp [gsQ, lost_none, pickK]
  by_cases hAB : b = true ∨ c < p
  · -- nothing of the data has changed
    have hd9 : ∀ j, p ≤ j → v' j = colV Pd d p n j := fun j hj => by
      by_cases ej : j = c
      · rcases hAB with z | z
        · rw [ej, vc]; exact hb.1 z
        · omega
      · exact vne j ej
    have hvl : ∀ j, j < colN d p n → (v' j).length = bw d p n j := fun j hj => (cl.c j hj rfl).2.1
    have hall : ∀ us, tryB d p n v' (fun _ => false) [] us = Pd := fun us => by
      rw [tryB_nil g (fun _ _ => rfl) hvl us, catV_congr _ fun j _ => hd9 (p + j) (by omega), Pd_cat g (by rw [hPd]; exact hPl)]
    obtain ⟨q, us, da, ya, yc, h9, n9, e9, n89, k9, hus, hsum, s9, _, hql, _⟩ := gather_find (k := k - 2) (by omega) (d := d) (p := p) (a := a) (m := m) (n := n) (by omega) (by omega) (by omega) (by omega) (by omega) (by omega) D1 (by omega) hn (v := v') (P := P') (lost := fun _ => false) xc (s0 := sA (padW (n * 128) D)) (s1 := sB (padW (n * 128) D)) (s2 := sC (padW (n * 128) D)) (s3 := sD (padW (n * 128) D)) (h := h3) (nx := n8 + 21) spc cl (qs := []) (by simp [picks]) (by rw [cnt_none]; simp) (fun us _ => by rw [gnil, hall us, hPd]; exact ⟨rfl, rfl, rfl, rfl⟩)
    have hq0 : q = [] := List.length_eq_zero_iff.1 (by simpa using hql)
    subst hq0
    rw [gnil, hall us, hPd, padW_take hm] at s9
    rw [show k - 2 + 2 = k from by omega, hN] at e9
    rw [e9]
    simp only [mst_]
    rw [if_neg (by decide)]
    obtain ⟨n10, l10, e10⟩ := sb_spec (f := k) D hm (by omega) (by omega) true cB s9 (sB3 h9 0 k9) (n9 + 17)
    cases b with
    | true =>
      rw [if_pos rfl, if_pos (by simp), e10]
      simp only [mst_]
      exact ⟨_, _, rfl⟩
    | false =>
      have hcp : c < p := hAB.resolve_left (by simp)
      rw [if_neg (by simp), if_pos (by simpa using hcp), if_pos (by simp), e10]
      simp only [mst_]
      exact ⟨_, _, rfl⟩
  · have hbf : b = false := by
      cases b with
      | false => rfl
      | true => exact absurd (.inl rfl) hAB
    have hpc : p ≤ c := by omega
    subst hbf
    have hYne : Y' ≠ colV Pd d p n c := fun z => by have := hb.2 z; cases this
    have hkr : kept (fun _ => false) (colN d p n) = List.range N := by rw [kept_none, hN]
    have gone1 : gsQ d p n (fun _ => false) [c] = [c] := by
      unfold gsQ
      rw [lost_none, List.nil_append, hkr, pick_range (fun x hx => by simp at hx; omega)]
    have right : ∀ us, UsOk d p n [c] us → tryB d p n v' (fun _ => false) [c] us = Pd := fun us hu => try_right g (by omega) (by rw [hPd]; exact hPl) (by rw [hPd]; exact sPd) (fun x hx => by simp at hx; omega) hu fun j hj hne => ⟨rfl, vne j (by simpa using hne)⟩
    have good : ∀ us, UsOk d p n (gsQ d p n (fun _ => false) [c]) us → SumEq (tryB d p n v' (fun _ => false) (gsQ d p n (fun _ => false) [c]) us) (sA (padW (n * 128) D)) (sB (padW (n * 128) D)) (sC (padW (n * 128) D)) (sD (padW (n * 128) D)) := fun us hu => by
      rw [gone1] at hu ⊢
      rw [right us hu, hPd]; exact ⟨rfl, rfl, rfl, rfl⟩
    obtain ⟨q, us, da, ya, yc, h9, n9, e9, n89, k9, hus, hsum, s9, sy9, hql, pre, post, hpk, hbad⟩ := gather_find (k := k - 2) (by omega) (d := d) (p := p) (a := a) (m := m) (n := n) (by omega) (by omega) (by omega) (by omega) (by omega) (by omega) D1 (by omega) hn (v := v') (P := P') (lost := fun _ => false) xc (s0 := sA (padW (n * 128) D)) (s1 := sB (padW (n * 128) D)) (s2 := sC (padW (n * 128) D)) (s3 := sD (padW (n * 128) D)) (h := h3) (nx := n8 + 21) spc cl (qs := [c]) (picks_all rfl (fun x hx => by
        simp only [List.mem_singleton] at hx
        rw [hkr, List.length_range]; omega) (List.pairwise_singleton _ _)) (by rw [cnt_none]; simp; omega) good
    rw [show k - 2 + 2 = k from by omega, hN] at e9
    rw [hkr] at sy9 hpk
    have hq1 : q.length = 1 := by
      have hle : q.length ≤ 1 := by simpa using hql
      by_cases h0 : q.length = 0
      · exfalso
        have hq0 : q = [] := List.length_eq_zero_iff.1 h0
        subst hq0
        rw [gnil] at hsum
        refine word_sum g (by rw [hPd]; exact hPl) (by rw [hPd]; exact sPd) (v := v') (lost := fun _ => false) hpc (by omega) (fun _ _ => rfl) (fun j _ hne => vne j hne) (by rw [vc, hw]; exact z5) (by rw [vc]; exact z6) (o := o) (by rw [hw]; exact how) (by omega) (by rw [vc]; exact z7) (by rw [vc]; exact z8) (by rw [vc]; exact hYne) us ?_
        rw [hsum.1, hPd]
      · omega
    obtain ⟨x, hqx⟩ : ∃ x, q = [x] := by
      match q, hq1 with
      | [x], _ => exact ⟨x, rfl⟩
    subst hqx
    rw [show ([x] : List Nat).length = 1 from rfl, List.length_range, picks_one] at hpk
    have hlen : pre.length < N := by
      have := congrArg List.length hpk
      rw [List.length_map, List.length_range, List.length_append, List.length_cons] at this
      omega
    have hxl : x = pre.length := by
      have := congrArg (fun l => l[pre.length]?) hpk
      simp only [List.getElem?_map, List.getElem?_range hlen, Option.map_some, List.getElem?_append_right (Nat.le_refl _), Nat.sub_self, List.getElem?_cons_zero, Option.some.injEq, List.cons.injEq, and_true] at this
      exact this.symm
    have hxc : x ≤ c := by
      by_cases hlt : c < x
      · exfalso
        have hm : [c] ∈ pre := by
          have := congrArg (fun l => l[c]?) hpk
          simp only [List.getElem?_map, List.getElem?_range hcN, Option.map_some, List.getElem?_append_left (show c < pre.length by omega)] at this
          exact List.mem_of_getElem? this.symm
        obtain ⟨us', hu', hb'⟩ := hbad _ hm
        exact hb' (good us' hu')
      · omega
    rw [show ([x] : List Nat).length = 1 from rfl] at e9 sy9
    rw [pick_range (fun z hz => by simp at hz; omega)] at sy9
    rw [e9]
    simp only [mst_]
    rw [if_neg (by decide), if_neg (by simpa using hpc), F5_J5_eq, if_pos (by simp)]
    obtain ⟨pp, e10, _, ld⟩ := sy9.at1 (i := 0) (by omega) (v := .int .i64 (x : Int)) (by simp [ints, nints])
    rw [show ((0 : Nat) : Int) = 0 from rfl] at ld
    subst e10
    simp only [mst_]
    rw [if_pos (by simp), ld]
    simp only [mst_]
    rw [if_pos (by simpa using hxc), if_pos (by simp), ld]
    simp only [mst_]
    by_cases hlt : x < c
    · rw [if_pos (by simpa using hlt)]
      exact ⟨_, _, rfl⟩
    · have hxe : x = c := by omega
      subst hxe
      rw [gone1] at hus s9
      rw [right us hus, hPd, padW_take hm] at s9
      rw [if_neg (by simp)]
      obtain ⟨n10, l10, e10⟩ := sb_spec (f := k) D hm (by omega) (by omega) true cB s9 (sB3 h9 0 k9) (n9 + 8 + 23)
      rw [e10]
      simp only [mst_]
      exact ⟨_, _, rfl⟩

end Go.Proofs.Ytalfcokiooaliaa.T
