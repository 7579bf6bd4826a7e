import Derived.Test.YtalfcokiooaliaaGD
set_option linter.unusedVariables false
set_option linter.unusedSimpArgs false
namespace Go.Proofs.Ytalfcokiooaliaa.T
open Go Go.RowKit Go.Proofs

/-! ### lists that may differ -/
theorem sbx_loop (call : YldF → CallF) (lf : Nat) {l r : List Nat} (hlr : l.length = r.length) (hl : l.length ≤ 1000000000000000) {sa ta : Option (Nat × Nat)} (sc tc : Bool) {h : AHeap} {n1 n2 : Nat} (hs : Sl h n1 sa l.length 1 (ints .u8 (nints l))) (ht : Sl h n2 ta r.length 1 (ints .u8 (nints r))) (m : Nat) :
    ∀ (f i nx : Nat), i + m = l.length → m < f → (∀ j (hj : j < i) (h1 : j < l.length), l[j] = r[j]'(by omega)) → ∃ b nx', nx ≤ nx' ∧ F13_L1 call Y0 lf f sa l.length sc ta r.length tc (i : Int) h nx = some (.bool b, h, nx') ∧ (b = true ↔ l = r) := by
  induction m with
  | zero =>
    intro f i nx e hf hk
    obtain ⟨f, rfl⟩ : ∃ m, f = m + 1 := ⟨f - 1, by omega⟩
    obtain rfl : i = l.length := by omega
    rw [F13_L1_eq, if_neg (by simp)]
    exact ⟨true, _, by omega, rfl, by simp only [true_iff]; exact List.ext_getElem hlr fun j h1 h2 => hk j h1 h1⟩
  | succ m ih =>
    intro f i nx e hf hk
    obtain ⟨f, rfl⟩ : ∃ m, f = m + 1 := ⟨f - 1, by omega⟩
    have hi : i < l.length := by omega
    rw [F13_L1_eq, if_pos (by simpa using hi), hs.readN rfl hi]
    simp only [mst_]
    rw [ht.readN rfl (by omega)]
    simp only [mst_]
    by_cases he : l[i] = r[i]'(by omega)
    · rw [if_neg (by simp [he]), wsucc (by omega)]
      obtain ⟨b, nx', l', e', hb⟩ := ih f (i + 1) (nx + 16) (by omega) (by omega) fun j hj h1 => by
        by_cases ej : j = i
        · subst ej; exact he
        · exact hk j (by omega) h1
      exact ⟨b, nx', by omega, e', hb⟩
    · rw [if_pos (by simp; omega)]
      exact ⟨false, _, by omega, rfl, by simp only [Bool.false_eq_true, false_iff]; intro z; subst z; exact he rfl⟩
theorem sb_any {f : Nat} {l r : List Nat} {w : Nat} (hl : l.length = w) (hr : r.length = w) (hf : w + 2 ≤ f) (hw : w ≤ 1000000) {sa ta : Option (Nat × Nat)} (sc tc : Bool) {h : AHeap} {n1 n2 : Nat} (hs : Sl h n1 sa w 1 (ints .u8 (nints l))) (ht : Sl h n2 ta w 1 (ints .u8 (nints r))) (nx : Nat) :
    ∃ b nx', nx ≤ nx' ∧ callP Try.prog keepT f Y0 13 [.slice sa w sc, .slice ta w tc] h nx = some (.bool b, h, nx') ∧ (b = true ↔ l = r) := by
  obtain ⟨f, rfl⟩ : ∃ m, f = m + 1 := ⟨f - 1, by omega⟩
  rw [F13_eq, if_neg (by simp)]
  have := sbx_loop (callP Try.prog keepT f) f (l := l) (r := r) (by omega) (by omega) sc tc (by rw [hl]; exact hs) (by rw [hr]; exact ht) l.length f 0 (nx + 7) (by omega) (by omega) (fun j hj => by omega)
  rw [hl, hr, show ((0 : Nat) : Int) = 0 from rfl] at this
  obtain ⟨b, nx', l', e', hb⟩ := this
  exact ⟨b, nx', by omega, e', hb⟩

theorem flat_set1 {es : Nat} {v : AV} : ∀ {rows : List (List AV)} {i f : Nat} {r : List AV}, (∀ r ∈ rows, r.length = es) → rows[i]? = some r → f < es → rows.flatten.set (i * es + f) v = (rows.set i (r.set f v)).flatten
  | [], i, f, r, _, hi, _ => by simp at hi
  | q :: rows, i, f, r, h, hi, hf => by
    have hq := h q List.mem_cons_self
    cases i with
    | zero =>
      simp at hi; subst hi
      simp only [Nat.zero_mul, Nat.zero_add, List.flatten_cons, List.set_cons_zero]
      rw [List.set_append_left _ _ (by omega)]
    | succ i =>
      simp at hi
      simp only [List.flatten_cons, List.set_cons_succ]
      rw [← flat_set1 (fun u hu => h u (List.mem_cons_of_mem _ hu)) hi hf, List.set_append_right _ _ (by rw [hq, Nat.add_mul]; omega)]
      congr 2
      rw [hq, Nat.add_mul]; omega
theorem prows_data {P : Nat → Tri} {lost : Nat → Bool} {N c : Nat} {t : Tri} (hc : c < N) (hl : lost c = false) : (prows P lost N).flatten.set (c * 2 + 1) (tcell t) = (prows (fun j => if j = c then t else P j) lost N).flatten := by
  rw [flat_set1 (prows_row _ _ _) (prows_get hc) (by omega)]
  congr 1
  apply List.ext_getElem
  · simp [prows]
  · intro j h1 h2
    rw [List.getElem_set]
    simp only [prows, List.getElem_map, List.getElem_range]
    by_cases e : c = j
    · subst e; simp [prow, hl]
    · rw [if_neg e]; unfold prow; simp only [if_neg (Ne.symm e)]

/-! ### a column is changed -/
theorem xor_small8 {a : Nat} {b : Int} (ha : a < 256) (h0 : 0 ≤ b) (h1 : b < 256) : ∃ c : Nat, c < 256 ∧ Go.bits .xor .u8 (a : Int) b = (c : Int) := by
  obtain ⟨b, rfl⟩ : ∃ n : Nat, b = (n : Int) := ⟨b.toNat, by omega⟩
  exact ⟨a ^^^ b, Gf.xor_lt ha (by omega), g_xor8 ha (by omega)⟩

theorem rot_loop (call : YldF → CallF) (lf L0 : Nat) {bys : List Int} (hby : bys.length ≤ 1000000000000000) (h8 : ∀ x ∈ bys, 0 ≤ x ∧ x < 256) {ba : Option (Nat × Nat)} (bc x6 : Bool) (x15 x16 x17 : Int) (X18 X19 X20 X22 : Option (Nat × Nat)) (N18 N19 N22 : Nat) (C18 C19 C22 : Bool) (x23 x24 : Int) {w yid : Nat} (hw : w ≤ 100000) (yc : Bool) {h0 : AHeap} {n0 : Nat} (sb : Sl h0 n0 ba bys.length 1 (ints .u8 bys)) (hy : n0 ≤ yid) (m : Nat) :
    ∀ (f i : Nat) (Y : List Nat) (h : AHeap) (nx : Nat), i + m = w → m < f → yid < nx → Ext h0 n0 h nx → Y.length = w → Small Y → h yid = some ⟨ints .u8 (nints Y), 1, true⟩ →
    ∃ (Y' : List Nat) (h' : AHeap) (nx' : Nat), F4_L4 call Y0 lf L0 f ba bys.length bc x6 x15 x16 x17 X18 N18 C18 X19 N19 C19 X20 X22 N22 C22 x23 x24 (some (yid, 0)) w yc (i : Int) h nx = F4_J6 call Y0 lf L0 ba bys.length bc x6 x15 x16 x17 X18 N18 C18 X19 N19 C19 X20 X22 N22 C22 x23 x24 (some (yid, 0)) w yc h' nx' ∧ yid < nx' ∧ nx ≤ nx' ∧ (∀ j, j ≠ yid → h' j = h j) ∧ Y'.length = w ∧ Small Y' ∧ h' yid = some ⟨ints .u8 (nints Y'), 1, true⟩ := by
  induction m with
  | zero =>
    intro f i Y h nx e hf hyl x hY sY hb
    obtain ⟨f, rfl⟩ : ∃ m, f = m + 1 := ⟨f - 1, by omega⟩
    obtain rfl : i = w := by omega
    rw [F4_L4_eq, if_neg (by simp)]
    exact ⟨Y, h, nx + 10, rfl, by omega, by omega, fun _ _ => rfl, hY, sY, hb⟩
  | succ m ih =>
    intro f i Y h nx e hf hyl x hY sY hb
    obtain ⟨f, rfl⟩ : ∃ m, f = m + 1 := ⟨f - 1, by omega⟩
    have hi : i < w := by omega
    rw [F4_L4_eq, if_pos (by simpa using hi)]
    by_cases hib : i < bys.length
    · have hb8 := h8 _ (List.getElem_mem hib)
      obtain ⟨c, c8, ec⟩ := xor_small8 (sY _ (List.getElem_mem (show i < Y.length by omega))) hb8.1 hb8.2
      rw [if_pos (by simpa using hib), F4_J5_eq]
      simp only [mst_]
      rw [if_pos ⟨by omega, by omega⟩, show 0 + Int.toNat (i : Int) * 1 = i from by omega, ld_at hb (nints_at (List.getElem?_eq_getElem (show i < Y.length by omega)))]
      simp only [mst_]
      rw [(sb.ext x).readI hib]
      simp only [mst_]
      rw [ec, if_pos ⟨by omega, by omega⟩, st_to hb (v := .int .u8 (c : Int)) rfl (by rw [nintsL]; omega) (cs' := ints .u8 (nints (Y.set i c))) nints_set, wsucc (by omega)]
      obtain ⟨Y', h', nx', z1, z2, z3, z4, z5, z6, z7⟩ := ih f (i + 1) (Y.set i c) (h.put yid (some ⟨ints .u8 (nints (Y.set i c)), 1, true⟩)) (nx + 10 + 14) (by omega) (by omega) (by omega) ⟨by have := x.1; omega, fun j hj => by rw [put_ne (by omega), x.2 j hj]⟩ (by rw [List.length_set]; exact hY) (fun z hz => by
        rcases List.mem_or_eq_of_mem_set hz with hz | rfl
        · exact sY z hz
        · exact c8) (put_same _ _ _)
      exact ⟨Y', h', nx', z1, z2, by omega, fun j hj => by rw [z4 j hj, put_ne hj], z5, z6, z7⟩
    · rw [if_neg (by simpa using hib)]
      exact ⟨Y, h, nx + 10, rfl, by omega, by omega, fun _ _ => rfl, hY, sY, hb⟩

end Go.Proofs.Ytalfcokiooaliaa.T

namespace Go.Proofs.Ytalfcokiooaliaa.T
open Go Go.RowKit Go.Proofs

/-! ### columns that rot -/
def lostI (b : Bool) (ls : List Nat) (i j : Nat) : Bool := b && decide (j ∈ ls.take (min i 1))
theorem lostI_mem {b : Bool} {ls : List Nat} {i j : Nat} (h : lostI b ls i j = true) : b = true ∧ j ∈ ls.take (min i 1) := by
  unfold lostI at h; simpa using h
/-- The columns as they are now. -/
structure Rot (h : AHeap) (nx N pid : Nat) (w : Nat → Nat) (v0 v : Nat → List Nat) (lost : Nat → Bool) (P : Nat → Tri) (ch : List Nat) : Prop where
  b : h pid = some ⟨(prows P lost N).flatten, 2, true⟩
  l : pid < nx
  c : ∀ k, k < N → lost k = false → (P k).2.1 = w k ∧ (v k).length = w k ∧ Small (v k) ∧ Sl h nx (P k).1 (w k) 1 (ints .u8 (nints (v k))) ∧ Av (fun j => j = pid) (P k).1 (w k)
  k : ∀ k, k < N → k ∉ ch → v k = v0 k

theorem rots_loop (call : YldF → CallF) (lf : Nat) (hlf : 100100 ≤ lf) {bys : List Int} (hby : bys.length ≤ 1000000000000000) (h8 : ∀ x ∈ bys, 0 ≤ x ∧ x < 256) {ba : Option (Nat × Nat)} (bc x6 : Bool) (x15 x16 x17 : Int) (X18 X20 : Option (Nat × Nat)) (N18 : Nat) (C18 pc : Bool) {N t : Nat} (hN : N ≤ 256) {ls : List Nat} (ht : ls.length = t) (htl : t ≤ 256) (hmem : ∀ k ∈ ls, k < N) (hnd : ls.Nodup) {w : Nat → Nat} (hw : ∀ k, k < N → 1 ≤ w k ∧ w k ≤ 100000) {v0 : Nat → List Nat} {la : Option (Nat × Nat)} (lc : Bool) {h0 : AHeap} {n0 pid : Nat} (sb : Sl h0 n0 ba bys.length 1 (ints .u8 bys)) (hbp : ∀ p, ba = some p → 0 < bys.length → p.1 ≠ pid) (sl : Sl h0 n0 la t 1 (ints .i64 (nints ls))) (hav : ∀ p, la = some p → 0 < t → p.1 ≠ pid) (hpl : pid < n0) (m : Nat) :
    ∀ (f i : Nat) (P : Nat → Tri) (v : Nat → List Nat) (h : AHeap) (nx : Nat), i + m = t → m < f → Frm (fun j => j = pid) h0 n0 h nx → Rot h nx N pid w v0 v (lostI x6 ls i) P (ls.take i) →
    ∃ (f' : Nat) (P' : Nat → Tri) (v' : Nat → List Nat) (h' : AHeap) (nx' : Nat), F4_L1 call Y0 lf f ba bys.length bc x6 x15 x16 x17 X18 N18 C18 (some (pid, 0)) N pc X20 la t lc (i : Int) h nx = F4_L1 call Y0 lf (f' + 1) ba bys.length bc x6 x15 x16 x17 X18 N18 C18 (some (pid, 0)) N pc X20 la t lc (t : Int) h' nx' ∧ Frm (fun j => j = pid) h0 n0 h' nx' ∧ Rot h' nx' N pid w v0 v' (lostI x6 ls t) P' ls := by
  induction m with
  | zero =>
    intro f i P v h nx e hf x Rt
    obtain ⟨f, rfl⟩ : ∃ m, f = m + 1 := ⟨f - 1, by omega⟩
    obtain rfl : i = t := by omega
    rw [List.take_of_length_le (by omega)] at Rt
    exact ⟨f, P, v, h, nx, rfl, x, Rt⟩
  | succ m ih =>
    intro f i P v h nx e hf x Rt
    obtain ⟨f, rfl⟩ : ∃ m, f = m + 1 := ⟨f - 1, by omega⟩
    have hi : i < t := by omega
    have y := x.1
    obtain ⟨k, hk⟩ : ∃ k, ls[i]'(by omega) = k := ⟨_, rfl⟩
    have hkm : k ∈ ls := by rw [← hk]; exact List.getElem_mem _
    have hkN : k < N := hmem k hkm
    have sl' : Sl h nx la t 1 (ints .i64 (nints ls)) := sl.fr (D := fun j => j = pid) (fun ht0 p hp z => hav p hp ht0 z) x
    have tk : ls.take (i + 1) = ls.take i ++ [k] := by rw [← hk]; exact List.take_succ_eq_append_getElem (by omega)
    have fl := flat_len (prows_row P (lostI x6 ls i) N)
    rw [prows_len] at fl
    have hcase : (x6 = true ∧ i = 0) ∨ lostI x6 ls i k = false := by
      by_cases hx : x6 = true
      · by_cases hi0 : i = 0
        · exact .inl ⟨hx, hi0⟩
        · right
          have hm : k ∉ ls.take (min i 1) := fun hm => by
            obtain ⟨j, hj, e⟩ := List.getElem_of_mem hm
            have hj1 : j < 1 := by rw [List.length_take] at hj; omega
            rw [List.getElem_take] at e
            have := (List.pairwise_iff_getElem.1 hnd) j i (by omega) (by omega) (by omega)
            exact this (e.trans hk.symm)
          unfold lostI; simp [hm]
      · right; unfold lostI; simp [hx]
    have walkJ2 : lostI x6 ls i k = false → ∀ nz, nx + 14 ≤ nz → ∃ (P' : Nat → Tri) (v' : Nat → List Nat) (h' : AHeap) (nx' : Nat), F4_J2 call Y0 lf f ba bys.length bc x6 x15 x16 x17 X18 N18 C18 (some (pid, 0)) N pc X20 la t lc (i : Int) (k : Int) h nz = F4_L1 call Y0 lf f ba bys.length bc x6 x15 x16 x17 X18 N18 C18 (some (pid, 0)) N pc X20 la t lc ((i + 1 : Nat) : Int) h' nx' ∧ Frm (fun j => j = pid) h0 n0 h' nx' ∧ Rot h' nx' N pid w v0 v' (lostI x6 ls i) P' (ls.take (i + 1)) := by
      intro hlk nz hnz
      obtain ⟨c1, c2, c3, c4, c5⟩ := Rt.c k hkN hlk
      obtain ⟨w1, w2⟩ := hw k hkN
      have hrow : (prows P (lostI x6 ls i) N).flatten[k * 2 + 1]? = some (tcell (P k)) := by
        rw [flat_get (prows_row _ _ _) (prows_get hkN) (by omega)]; simp [prow, hlk]
      obtain ⟨rd, s1⟩ := c4.src'
      obtain ⟨E, f1, f2, f3, f4⟩ := copyOf (h := h) (nx := nx) (n := w k) (es := 1) (bytes := 1) (id := nz + 5) (vs := ints .u8 (nints (v k))) (rd := rd) c4.1 (growOk_of (by omega) (by omega)) (by omega)
      obtain ⟨yid, hy, y0, y1, yb⟩ : ∃ yid, E.a = some (yid, 0) ∧ nx ≤ yid ∧ yid < nz + 5 + 1 ∧ (h.puts E.sets) yid = some ⟨ints .u8 (nints (v k)), 1, true⟩ := by
        rcases f3.2 with ⟨_, z⟩ | z
        · omega
        · exact z
      obtain ⟨H, hH⟩ : ∃ H, H = h.puts E.sets := ⟨_, rfl⟩
      rw [← hH] at yb f4
      have sbH : Sl H nx ba bys.length 1 (ints .u8 bys) := (sb.fr (D := fun j => j = pid) (fun hb0 p hp z => hbp p hp hb0 z) x).ext ⟨Nat.le_refl _, fun j hj => f4.2 j hj⟩
      obtain ⟨Y', h2, n2, z1, z2, z3, z4, z5, z6, z7⟩ := rot_loop call lf f hby h8 bc x6 x15 x16 x17 X18 (some (pid, 0)) X20 la N18 N t C18 pc lc (i : Int) (k : Int) w2 E.c (h0 := H) (n0 := nx) sbH y0 (w k) lf 0 (v k) H (nz + 8) (by omega) (by omega) (by omega) ⟨by omega, fun _ _ => rfl⟩ c2 c3 yb
      rw [show ((0 : Nat) : Int) = 0 from rfl] at z1
      have b2 : h2 pid = some ⟨(prows P (lostI x6 ls i) N).flatten, 2, true⟩ := by rw [z4 pid (by have := Rt.l; omega), f4.2 pid Rt.l, Rt.b]
      rw [F4_J2_eq]
      simp only [mst_]
      rw [if_pos ⟨by omega, by omega⟩, show 0 + Int.toNat (k : Int) * 2 + 1 = k * 2 + 1 from by omega, ld_at Rt.b hrow]
      unfold tcell
      simp only [mst_]
      rw [c1, s1, some_bind, f1, some_bind, f2, hy, ← hH, z1, F4_J6_eq]
      simp only [mst_]
      rw [if_pos ⟨by omega, by omega⟩, show 0 + Int.toNat (k : Int) * 2 + 1 = k * 2 + 1 from by omega, st_to (v := .slice (some (yid, 0)) (w k) E.c) b2 rfl (by rw [fl]; omega) (prows_data (t := (some (yid, 0), w k, E.c)) hkN hlk), wsucc (by omega)]
      have kH : ∀ j, j < nx → j ≠ pid → (h2.put pid (some ⟨(prows (fun j => if j = k then (some (yid, 0), w k, E.c) else P j) (lostI x6 ls i) N).flatten, 2, true⟩)) j = h j := fun j hj hne => by
        rw [put_ne hne, z4 j (by omega), f4.2 j hj]
      refine ⟨fun j => if j = k then (some (yid, 0), w k, E.c) else P j, fun j => if j = k then Y' else v j, _, n2 + 9, rfl, ⟨by omega, fun j hj hne => by rw [kH j (by omega) hne, x.2 j hj hne]⟩, ⟨put_same _ _ _, by have := Rt.l; omega, fun j hj hlj => ?_, fun j hj hnm => ?_⟩⟩
      · by_cases ej : j = k
        · have h1 : (if j = k then ((some (yid, 0), w k, E.c) : Tri) else P j) = (some (yid, 0), w k, E.c) := if_pos ej
          have h2' : (if j = k then Y' else v j) = Y' := if_pos ej
          simp only [h1, h2']
          rw [ej]
          refine ⟨rfl, z5, z6, Sl.ofBlk ((put_ne (by have := Rt.l; omega)).trans z7) (by simp [nints_len, z5]) (by omega), fun _ pp hpp z => ?_⟩
          obtain rfl := Option.some.inj hpp
          have := Rt.l
          simp only at z; omega
        · simp only [if_neg ej]
          obtain ⟨a1, a2, a3, a4, a5⟩ := Rt.c j hj hlj
          exact ⟨a1, a2, a3, a4.fr a5 ⟨by omega, kH⟩, a5⟩
      · rw [tk] at hnm
        simp only [List.mem_append, List.mem_singleton, not_or] at hnm
        simp only [if_neg hnm.2]
        exact Rt.k j hj hnm.1
    rw [F4_L1_eq, if_pos (by simpa using hi), sl'.readN ht (by omega)]
    simp only [mst_]
    rw [hk]
    by_cases hx : x6 = true
    · rw [if_pos hx]
      by_cases hi0 : i = 0
      · subst hi0
        rw [if_pos (by simp)]
        rw [if_pos ⟨by omega, by omega⟩, show 0 + Int.toNat (k : Int) * 2 = k * 2 from by omega]
        rw [st_at (v := .agg [.bool true, .slice none 0 false]) Rt.b (by simp [AV.cells]) (by simp [AV.cells, fl]; omega) (by simp [AV.cells, allOne, AV.one])]
        have hsp : splice (prows P (lostI x6 ls 0) N).flatten (k * 2) (AV.cells (.agg [.bool true, .slice none 0 false])) = (prows P (lostI x6 ls 1) N).flatten := by
          show splice _ _ [AV.bool true, AV.slice none 0 false] = _
          rw [flat_set (prows_row _ _ _) rfl (by rw [prows_len]; exact hkN), prows_set, prows_congr fun j _ => ?_]
          have h1 : ls.take 1 = [k] := by simpa using tk
          unfold lostI
          rw [hx]
          simp only [Nat.min_self, h1, Nat.zero_min, List.take_zero, Bool.true_and]
          rw [Bool.eq_iff_iff]; simp
        rw [hsp, wsucc (by omega)]
        refine ih f 1 P v _ (nx + 22) (by omega) (by omega) (x.put (.inl rfl) (by omega)) ⟨put_same _ _ _, by have := Rt.l; omega, fun j hj hlj => ?_, fun j hj hnm => Rt.k j hj (by simp)⟩
        have hl0 : lostI x6 ls 0 j = false := by unfold lostI; simp
        obtain ⟨a1, a2, a3, a4, a5⟩ := Rt.c j hj hl0
        exact ⟨a1, a2, a3, a4.fr a5 ⟨by omega, fun z hz hne => put_ne hne⟩, a5⟩
      · rw [if_neg (by simp; omega)]
        obtain ⟨P', v', h', nx', e1, x1, R1⟩ := walkJ2 (hcase.resolve_left fun z => hi0 z.2) (nx + 14) (Nat.le_refl _)
        rw [e1]
        refine ih f (i + 1) P' v' h' nx' (by omega) (by omega) x1 ?_
        have : lostI x6 ls (i + 1) = lostI x6 ls i := by unfold lostI; rw [show min (i + 1) 1 = min i 1 from by omega]
        rw [this]; exact R1
    · rw [if_neg hx]
      obtain ⟨P', v', h', nx', e1, x1, R1⟩ := walkJ2 (hcase.resolve_left fun z => hx z.1) (nx + 14) (Nat.le_refl _)
      rw [e1]
      refine ih f (i + 1) P' v' h' nx' (by omega) (by omega) x1 ?_
      have : lostI x6 ls (i + 1) = lostI x6 ls i := by funext j; unfold lostI; simp [hx]
      rw [this]; exact R1

end Go.Proofs.Ytalfcokiooaliaa.T

namespace Go.Proofs.Ytalfcokiooaliaa.T
open Go Go.RowKit Go.Proofs

/-! ### the law of the columns that rot -/
theorem lostI_cnt {b : Bool} {ls : List Nat} {N : Nat} (hm : ∀ k ∈ ls, k < N) (hnd : ls.Nodup) (t : Nat) (ht : ls.length = t) : cnt (lostI b ls t) N + ((kept (lostI b ls t) N).filter fun j => decide (j ∈ ls)).length = t := by
  have e1 : cnt (fun j => decide (j ∈ ls)) N = t := by rw [cnt_mem hm hnd, ht]
  have sub : ∀ j, lostI b ls t j = true → j ∈ ls := fun j hj => List.mem_of_mem_take (lostI_mem hj).2
  have e2 : ∀ n, cnt (lostI b ls t) n + ((kept (lostI b ls t) n).filter fun j => decide (j ∈ ls)).length = cnt (fun j => decide (j ∈ ls)) n := by
    intro n
    induction n with
    | zero => simp [cnt, kept]
    | succ n ih =>
      rw [cnt_succ, cnt_succ, kept_succ]
      by_cases h : lostI b ls t n = true
      · rw [if_pos h, if_pos h, if_pos (by simpa using sub n h)]; omega
      · rw [if_neg h, if_neg h, List.filter_append, List.length_append]
        by_cases hn : n ∈ ls
        · rw [if_pos (by simpa using hn)]; simp [hn]; omega
        · rw [if_neg (by simpa using hn)]; simp [hn]; omega
  rw [e2, e1]

/-- The places among those that are kept. -/
def goodQ (KL ls : List Nat) : List Nat := (List.range KL.length).filter fun x => decide (KL.getD x 0 ∈ ls)
theorem pick_good (KL ls : List Nat) : pickK KL (goodQ KL ls) = KL.filter fun j => decide (j ∈ ls) := by
  have : ∀ n, n ≤ KL.length → ((List.range n).filter fun x => decide (KL.getD x 0 ∈ ls)).map (fun x => KL.getD x 0) = (KL.take n).filter fun j => decide (j ∈ ls) := by
    intro n
    induction n with
    | zero => intro _; simp
    | succ n ih =>
      intro h
      rw [List.range_succ, List.filter_append, List.map_append, ih (by omega), List.take_succ_eq_append_getElem (by omega), List.filter_append]
      congr 1
      have e : KL.getD n 0 = KL[n]'(by omega) := getD_at (by omega)
      simp only [List.filter_cons, List.filter_nil, e]
      by_cases hm : KL[n]'(by omega) ∈ ls
      · rw [if_pos (by simpa using hm), List.map_cons, List.map_nil, e, if_pos (by simpa using hm)]
      · rw [if_neg (by simpa using hm), List.map_nil, if_neg (by simpa using hm)]
  have h := this KL.length (Nat.le_refl _)
  rw [List.take_length] at h
  exact h
theorem goodQ_len (KL ls : List Nat) : (goodQ KL ls).length = (KL.filter fun j => decide (j ∈ ls)).length := by
  rw [← pick_good]; simp [pickK]
theorem goodQ_pick (KL ls : List Nat) : goodQ KL ls ∈ picks KL.length (goodQ KL ls).length 0 :=
  picks_all rfl (fun x hx => ⟨Nat.zero_le _, List.mem_range.1 (List.mem_filter.1 hx).1⟩) (List.Pairwise.filter _ List.pairwise_lt_range)

theorem GatherRots_run (h : AHeap) (nx : Nat) (x0 : Int) (_ : (Lit.int .i64 x0).wf = true) (x1 : Int) (_ : (Lit.int .i64 x1).wf = true) (x2 : Int) (_ : (Lit.int .i64 x2).wf = true)
    (l3 : List Int) (g3 : l3.length * 1 ≤ 140737488351232) (w3 : ∀ n ∈ l3, (Lit.int .u8 n).wf = true) (a3 : Option (Nat × Nat)) (sl3 : Sl h nx a3 l3.length 1 (l3.map (AV.int .u8)))
    (l4 : List Int) (g4 : l4.length * 8 ≤ 140737488351232) (_ : ∀ n ∈ l4, (Lit.int .i64 n).wf = true) (a4 : Option (Nat × Nat)) (sl4 : Sl h nx a4 l4.length 1 (l4.map (AV.int .i64)))
    (l5 : List Int) (g5 : l5.length * 1 ≤ 140737488351232) (w5 : ∀ n ∈ l5, (Lit.int .u8 n).wf = true) (a5 : Option (Nat × Nat)) (sl5 : Sl h nx a5 l5.length 1 (l5.map (AV.int .u8))) (b6 : Bool) :
    ∃ f h' nx', callP Try.prog keepT f Y0 4 [.int .i64 x0, .int .i64 x1, .int .i64 x2, .slice a3 l3.length false, .slice a4 l4.length false, .slice a5 l5.length false, .bool b6] h nx = some (.bool true, h', nx') := by
  obtain ⟨k, hk⟩ : ∃ k, k = 200000 + l4.length := ⟨_, rfl⟩
  refine ⟨k + 1, ?_⟩
  obtain ⟨b3, rfl, s3, z3⟩ := ofB w3
  rw [nints_len] at sl3 g3 ⊢
  have sl3 : Sl h nx a3 b3.length 1 (ints .u8 (nints b3)) := sl3
  clear w3 z3
  obtain ⟨dI, pI, n1, l1, hd, hd', hp, hp', hpd, e1⟩ := B.shape_spec (k := k) (by omega) x0 x1 h (nx + 9)
  obtain ⟨d, rfl⟩ : ∃ d : Nat, dI = (d : Int) := ⟨dI.toNat, by omega⟩
  obtain ⟨p, rfl⟩ : ∃ p : Nat, pI = (p : Int) := ⟨pI.toNat, by omega⟩
  obtain ⟨n2, e2, l2⟩ := picked_spec (k := k) (by omega) x2 60000 h (n1 + 3) (by omega) (by omega)
  have q0 := Int.emod_nonneg x2 (show (60000 : Int) ≠ 0 by omega)
  have q1 := Int.emod_lt_of_pos x2 (show (0 : Int) < 60000 by omega)
  obtain ⟨a, hae⟩ : ∃ a : Nat, x2 % 60000 = (a : Int) := ⟨(x2 % 60000).toNat, by omega⟩
  rw [hae] at e2 q0 q1
  have xa0 : Ext h nx h (n2 + 3) := ⟨by omega, fun _ _ => rfl⟩
  obtain ⟨D, oB, cB, hB, nB, sD', D1, D2, eB, xB, slB⟩ := Block_spec (f := k) (by omega) s3 (by omega) false (sl3.ext xa0)
  have yB := xB.1
  obtain ⟨m, hm⟩ : ∃ m, D.length = m := ⟨_, rfl⟩
  rw [hm] at D1 D2 eB slB
  obtain ⟨n, hn⟩ : ∃ n, n = (m + 127) / 128 := ⟨_, rfl⟩
  have g := geo d p n (by omega) (by omega) (by omega) (by omega) (by omega) (by omega) (by omega)
  have gp := g.pN
  have g8 := g.N8
  obtain ⟨P, xa, xc, hL, nL, eL, xL, oL, cL, aL, lL⟩ := laid_spec (f := k) (by omega) (d := d) (p := p) (a := a) (m := m) (n := n) (by omega) (by omega) (by omega) (by omega) (by omega) (by omega) D1 (by omega) hn hm sD' cB (slB.ext (nx' := nB + 13) ⟨by omega, fun _ _ => rfl⟩)
  have yL := xL.1
  obtain ⟨pid, hxa, pl, pb⟩ := PRow.blk oL (by omega)
  have pid0 := lL pid ⟨0, hxa⟩
  subst hxa
  rw [F4_eq, e1]
  simp only [mst_]
  rw [e2]
  simp only [mst_]
  rw [eB]
  simp only [mst_]
  rw [eL]
  simp only [mst_]
  rw [st_all (put_same _ _ _) (by simp) (by simp) (by simp [allOne, AV.one])]
  obtain ⟨S, hS⟩ : ∃ S, S = [AV.int .i64 (sA (padW (n * 128) D)), AV.int .i64 (sB (padW (n * 128) D)), AV.int .i64 (sC (padW (n * 128) D)), AV.int .i64 (sD (padW (n * 128) D))] := ⟨_, rfl⟩
  rw [← hS]
  obtain ⟨H, hH⟩ : ∃ H, H = AHeap.put (AHeap.put hL (nB + 9) (some ⟨[.int .i64 0, .int .i64 0, .int .i64 0, .int .i64 0], 4, true⟩)) (nB + 9) (some ⟨S, 4, true⟩) := ⟨_, rfl⟩
  rw [← hH]
  have pH : ∀ j, j ≠ nB + 9 → H j = hL j := fun j hj => by rw [hH, put_ne hj, put_ne hj]
  have bS : H (nB + 9) = some ⟨S, 4, true⟩ := by rw [hH, put_same]
  have bP : H pid = some ⟨(prows P (fun _ => false) (colN d p n)).flatten, 2, true⟩ := by rw [pH pid (by omega), pb]
  have xH : Ext h nx H (nL + 3) := ⟨by omega, fun j hj => by rw [pH j (by omega), xL.2 j (by omega), xB.2 j (by omega)]⟩
  have sl4' : Sl h nx a4 l4.length 1 (ints .i64 l4) := sl4
  have sl5' : Sl h nx a5 l5.length 1 (ints .u8 l5) := sl5
  have h58 : ∀ x ∈ l5, 0 ≤ x ∧ x < 256 := fun x hx => by
    have := w5 x hx
    simp [Lit.wf, IntKind.min, IntKind.max, IntKind.signed, IntKind.bits] at this
    omega
  obtain ⟨N, hN⟩ : ∃ N, colN d p n = N := ⟨_, rfl⟩
  have gp' := gp
  have g8' := g8
  rw [hN] at gp' g8'
  obtain ⟨gg, oG, cG, h5, n5, e5, x5, o5, c5, _, lo5⟩ := sev_spec2 (f := k) (l := l4) (by omega) (by omega) false (most := p) (n := N) (by omega) (by omega) (by omega) ((sl4'.ext xH).ext (nx' := nL + 8) ⟨by omega, fun _ _ => rfl⟩)
  have y5 := x5.1
  obtain ⟨t, ht⟩ : ∃ t, cnt gg N = t := ⟨_, rfl⟩
  rw [hN, e5]
  simp only [mst_]
  rw [ht] at c5 ⊢
  obtain ⟨ls, hls⟩ : ∃ ls, ls = (List.range N).filter gg := ⟨_, rfl⟩
  rw [← hls] at o5
  have hlt : ls.length = t := by rw [hls]; exact ht
  have hmem : ∀ i ∈ ls, i < N := fun i hi => by rw [hls] at hi; exact List.mem_range.1 (List.mem_filter.1 hi).1
  have hnd : ls.Nodup := by rw [hls]; exact (List.Pairwise.filter _ List.pairwise_lt_range).imp fun h => Nat.ne_of_lt h
  have hPl : (padW (n * 128) D).length = n * 128 := padW_len (by omega)
  have sPd : Small (padW (n * 128) D) := padW_small sD'
  have W4 := bw_max g
  have xL5 : Frm (fun j => j = nB + 9) hL nL h5 (n5 + 1) := ⟨by omega, fun j hj hne => by rw [x5.2 j (by omega), pH j hne]⟩
  have bP5 : h5 pid = some ⟨(prows P (lostI b6 ls 0) N).flatten, 2, true⟩ := by
    have : lostI b6 ls 0 = fun _ => false := by funext j; unfold lostI; simp
    rw [this, x5.2 pid (by omega), bP, hN]
  have R0 : Rot h5 (n5 + 1) N pid (bw d p n) (colV (padW (n * 128) D) d p n) (colV (padW (n * 128) D) d p n) (lostI b6 ls 0) P (ls.take 0) := by
    refine ⟨bP5, by omega, fun j hj _ => ?_, fun _ _ _ => rfl⟩
    rw [← hN] at hj
    exact ⟨(cL j hj).1, (cL j hj).2.1, colV_small sPd _ _ _ _, (cL j hj).2.2.fr ((aL j hj).less fun z hz => .inr (by omega)) xL5, (aL j hj).less fun z hz => .inl ⟨0, by rw [hz]⟩⟩
  obtain ⟨f', P', v', h6, n6, e6, x6, R6⟩ := rots_loop (callP Try.prog keepT k) k (by omega) (bys := l5) (by omega) h58 false b6 (d : Int) (p : Int) (a : Int) oB (some (nB + 9, 0)) m cB xc (N := N) (by omega) hlt (by omega) hmem hnd (w := bw d p n) (fun j hj => ⟨bw_pos g (by omega), by have := bw_le g (c := j) (by omega); omega⟩) (v0 := colV (padW (n * 128) D) d p n) cG (h0 := h5) (n0 := n5 + 1) (pid := pid)
    ((sl5'.ext xH).ext (nx' := n5 + 1) ⟨by omega, fun j hj => x5.2 j (by omega)⟩) (fun q hq h0 => by
      obtain ⟨pp, b, e1, e2, _⟩ := sl5'.2 0 h0
      rw [e1] at hq
      obtain rfl := Option.some.inj hq
      omega) ((NRow.sl o5 hlt).ext (nx' := n5 + 1) ⟨by omega, fun _ _ => rfl⟩) (fun q hq _ => by have := lo5 q.1 ⟨q.2, by rw [hq]⟩; omega) (by omega) t k 0 P (colV (padW (n * 128) D) d p n) h5 (n5 + 1) (by omega) (by omega) (Frm.refl _ _ _) R0
  rw [show ((0 : Nat) : Int) = 0 from rfl] at e6
  have y6 := x6.1
  have bS6 : h6 (nB + 9) = some ⟨S, 4, true⟩ := by rw [x6.2 _ (by omega) (by omega), x5.2 _ (by omega), bS]
  rw [e6, F4_L1_eq, if_neg (by simp)]
  simp only [mst_]
  rw [ldr_all bS6 (by rw [hS]; rfl), hS]
  simp only [mst_]
  obtain ⟨lost, hlo⟩ : ∃ lost, lost = lostI b6 ls t := ⟨_, rfl⟩
  rw [← hlo] at R6
  have cl : ColsL h6 (n6 + 19) (colN d p n) (bw d p n) v' lost P' := ⟨fun j hj hl => by
    rw [hN] at hj
    obtain ⟨a1, a2, a3, a4, a5⟩ := R6.c j hj hl
    exact ⟨a1, a2, a3, a4.ext ⟨by omega, fun _ _ => rfl⟩⟩⟩
  have hcq := lostI_cnt (b := b6) hmem hnd t hlt
  rw [← hlo] at hcq
  have htq : cnt lost (colN d p n) + (goodQ (kept lost (colN d p n)) ls).length ≤ p := by rw [goodQ_len, hN]; omega
  obtain ⟨q, us, da, ya, yc, h7, n7, e7, n67, k7, hus, hsum, s7, _, hql, _⟩ := gather_find (k := k - 2) (by omega) (d := d) (p := p) (a := a) (m := m) (n := n) (by omega) (by omega) (by omega) (by omega) (by omega) (by omega) D1 (by omega) hn (v := v') (P := P') (lost := lost) xc (s0 := sA (padW (n * 128) D)) (s1 := sB (padW (n * 128) D)) (s2 := sC (padW (n * 128) D)) (s3 := sD (padW (n * 128) D)) (h := h6) (nx := n6 + 19) (by rw [hN]; exact Sl.pcs R6.b (by have := R6.l; omega)) cl (qs := goodQ (kept lost (colN d p n)) ls) (goodQ_pick _ _) htq (fun us hu => by
    have hg : gsQ d p n lost (goodQ (kept lost (colN d p n)) ls) = lostL lost (colN d p n) ++ (kept lost (colN d p n)).filter (fun j => decide (j ∈ ls)) := by unfold gsQ; rw [pick_good]
    have hgm : ∀ c ∈ gsQ d p n lost (goodQ (kept lost (colN d p n)) ls), c < colN d p n := fun c hc => by
      rw [hg] at hc
      rcases List.mem_append.1 hc with z | z
      · exact List.mem_range.1 (List.mem_filter.1 z).1
      · exact (kept_mem (List.mem_filter.1 z).1).1
    have := try_right g (by omega) hPl sPd hgm hu (v := v') (lost := lost) fun c hc hnc => by
      rw [hg] at hnc
      simp only [List.mem_append, not_or] at hnc
      have hl : lost c = false := by
        cases hlc : lost c with
        | false => rfl
        | true => exact absurd (List.mem_filter.2 ⟨List.mem_range.2 hc, hlc⟩) hnc.1
      refine ⟨hl, R6.k c (by omega) fun hcl => hnc.2 (List.mem_filter.2 ⟨List.mem_filter.2 ⟨List.mem_range.2 hc, by simp [hl]⟩, by simpa using hcl⟩)⟩
    rw [this]; exact ⟨rfl, rfl, rfl, rfl⟩)
  rw [show k - 2 + 2 = k from by omega, hN] at e7
  rw [e7]
  simp only [mst_]
  rw [if_neg (by decide), if_neg (by simp), if_neg (by simp; omega)]
  have tl := tryB_len g cl (gsQ d p n lost q) us
  have ts := tryB_small g cl (gsQ d p n lost q) us
  generalize tryB d p n v' lost (gsQ d p n lost q) us = X at hsum s7 tl ts
  have hX : (X.take m).length = m := by rw [List.length_take]; omega
  have sX : Small (X.take m) := fun z hz => ts z (List.mem_of_mem_take hz)
  have sB7 : Sl h7 (n7 + n6 + 100) oB m 1 (ints .u8 (nints D)) := slB.ext ⟨by omega, fun j hj => by rw [k7 j (by omega), x6.2 j (by omega) (by omega), x5.2 j (by omega), pH j (by omega), xL.2 j (by omega)]⟩
  obtain ⟨bb, n8, l8, e8, _⟩ := sb_any (f := k) hX hm (by omega) (by omega) true cB s7 sB7 (n7 + 15 + 3)
  rw [F4_J3_eq, e8]
  simp only [mst_]
  cases bb with
  | true => exact ⟨_, _, by rw [if_pos rfl]⟩
  | false =>
    rw [if_neg (by simp)]
    have hu : upTo m = n * 128 := by unfold upTo; rw [hn]
    obtain ⟨pa, pc, h9, n9, e9, x9, o9⟩ := padded_spec (f := k) (by omega) hX (by omega) true (s7.ext (h' := h7) (nx' := n8 + 9) ⟨by omega, fun _ _ => rfl⟩)
    rw [hu] at e9 o9
    have y9 := x9.1
    have pXl : (padW (n * 128) (X.take m)).length = n * 128 := padW_len (by omega)
    obtain ⟨h10, n10, e10, x10⟩ := of_spec (f := k) (l := padW (n * 128) (X.take m)) (m := n * 32) (by omega) (by omega) (padW_small sX) pc pXl o9.sl
    have y10 := x10.1
    rw [e9]
    simp only [mst_]
    rw [e10]
    simp only [mst_]
    rw [st_all (put_same _ _ _) (by simp) (by simp) (by simp [allOne, AV.one]), if_pos (by decide)]
    obtain ⟨h11, hh11⟩ : ∃ h11, h11 = AHeap.put (AHeap.put h10 (n8 + 6) (some ⟨[.int .i64 0, .int .i64 0, .int .i64 0, .int .i64 0], 4, true⟩)) (n8 + 6) (some ⟨[.int .i64 (sA (padW (n * 128) (X.take m))), .int .i64 (sB (padW (n * 128) (X.take m))), .int .i64 (sC (padW (n * 128) (X.take m))), .int .i64 (sD (padW (n * 128) (X.take m)))], 4, true⟩) := ⟨_, rfl⟩
    rw [← hh11]
    have b11 : h11 (n8 + 6) = some ⟨[.int .i64 (sA (padW (n * 128) (X.take m))), .int .i64 (sB (padW (n * 128) (X.take m))), .int .i64 (sC (padW (n * 128) (X.take m))), .int .i64 (sD (padW (n * 128) (X.take m)))], 4, true⟩ := by rw [hh11, put_same]
    have bS11 : h11 (nB + 9) = some ⟨[.int .i64 (sA (padW (n * 128) D)), .int .i64 (sB (padW (n * 128) D)), .int .i64 (sC (padW (n * 128) D)), .int .i64 (sD (padW (n * 128) D))], 4, true⟩ := by
      rw [hh11, put_ne (by omega), put_ne (by omega), x10.2 _ (by omega), x9.2 _ (by omega), k7 _ (by omega), bS6, hS]
    rw [ldr_all b11 (by simp)]
    simp only [mst_]
    rw [ldr_all bS11 (by simp)]
    simp only [mst_]
    by_cases hm128 : m % 128 = 0
    · have e1 : n * 128 = m := by omega
      have e2 : padW (n * 128) (X.take m) = X := by
        rw [List.take_of_length_le (by omega)]; exact padW_self tl
      rw [e2]
      obtain ⟨q1, q2, q3, q4⟩ := hsum
      rw [if_pos (by rw [q1, q2, q3, q4]; simp [eqCells, eqA1])]
      exact ⟨_, _, rfl⟩
    · have hne : ((Int.tmod ((m : Nat) : Int) 128) != 0) = true := by
        rw [Int.tmod_eq_emod_of_nonneg (by omega)]; simp; omega
      rw [hne]
      split
      · exact ⟨_, _, rfl⟩
      · exact ⟨_, _, rfl⟩

end Go.Proofs.Ytalfcokiooaliaa.T
