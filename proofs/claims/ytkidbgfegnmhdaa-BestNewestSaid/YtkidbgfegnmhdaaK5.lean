/- Labels: numbers are read; Decode's loops. -/
import Derived.Test.YtkidbgfegnmhdaaK4
set_option linter.unusedVariables false
set_option linter.unusedSimpArgs false
namespace Go.Proofs.Ytkidbgfegnmhdaa.T
open Go Go.RowKit Go.Proofs

def Rdr (h : AHeap) (n0 qb : Nat) (bs : List Int) : Prop := ∃ ra rc, h qb = some ⟨[.slice ra bs.length rc], 1, true⟩ ∧ Sl h n0 ra bs.length 1 (ints .u8 bs)
theorem Rdr.go {h h' : AHeap} {n0 qb : Nat} {bs : List Int} (w : Rdr h n0 qb bs) (hq : h' qb = h qb) (k : ∀ i, i < n0 → h' i = h i) : Rdr h' n0 qb bs := by
  obtain ⟨ra, rc, e, s⟩ := w
  exact ⟨ra, rc, hq.trans e, s.ext ⟨Nat.le_refl _, k⟩⟩

theorem num_loop {f : Nat} {Y : YldF} {g qb n0 k : Nat} (hk : k ≤ 8) (hq : n0 ≤ qb) {bs : List Int} (hb : Bytes bs) (hl : k ≤ bs.length) {h : AHeap} {nx1 : Nat} (w : Rdr h n0 qb bs) (m : Nat) :
    ∀ (lf nx : Nat), m ≤ k → m < lf → nx1 ≤ nx → qb < nx1 → ∃ h' nx', F18_L1 (callP Try.prog keepT f) Y g lf (some (qb, 0)) (k : Int) (wrapA .i64 (valL ((bs.take k).drop m))) ((m : Int) - 1) h nx = some (.int .i64 (wrapA .i64 (valL (bs.take k))), h', nx') ∧ Frm (fun j => j = qb) h nx1 h' nx' ∧ Rdr h' n0 qb (bs.drop k) := by
  obtain ⟨ra, rc, eq, sl⟩ := w
  induction m with
  | zero =>
    intro lf nx hm hlf h1 h2
    obtain ⟨lf, rfl⟩ : ∃ m, lf = m + 1 := ⟨lf - 1, by omega⟩
    rw [F18_L1_eq, if_neg (by rw [decide_eq_true_eq]; omega)]
    simp only [mst_]
    rw [ld_at eq (v := .slice ra bs.length rc) rfl]
    simp only [mst_]
    obtain ⟨ce, cs, _⟩ := sl.cut rc (lo := k) (hi := bs.length) hl (Nat.le_refl _) (l := some (.int .i64 (k : Int))) (r := none) (bound_some hl) bound_none
    rw [ce]
    simp only [mst_]
    rw [st_to eq (cs' := [.slice (shiftAddr ra (k * 1)) (bs.length - k) (rc.map fun j => j - k)]) rfl (by simp) rfl, List.drop_zero]
    refine ⟨_, _, rfl, ⟨by omega, fun i hi hd => put_ne hd⟩, _, _, by rw [put_same, List.length_drop], ?_⟩
    have hd : ((ints .u8 bs).drop (k * 1)).take ((bs.length - k) * 1) = ints .u8 (bs.drop k) := by
      rw [Nat.mul_one, Nat.mul_one, ints, ← List.map_drop, List.take_of_length_le (by simp)]
    rw [hd] at cs
    rw [List.length_drop]
    exact cs.ext ⟨Nat.le_refl _, fun i hi => put_ne (by omega)⟩
  | succ m ih =>
    intro lf nx hm hlf h1 h2
    obtain ⟨lf, rfl⟩ : ∃ m, lf = m + 1 := ⟨lf - 1, by omega⟩
    have hmb : m < bs.length := by omega
    have hbm := hb bs[m] (List.getElem_mem hmb)
    rw [F18_L1_eq, show ((m + 1 : Nat) : Int) - 1 = (m : Int) by omega, if_pos (decide_eq_true (by omega))]
    simp only [mst_]
    rw [ld_at eq (v := .slice ra bs.length rc) rfl]
    simp only [mst_]
    rw [sl.read0 (v := .int .u8 bs[m]) (i := m) (by omega) (by omega) (by omega) (by simp [ints, hmb])]
    simp only [mst_]
    rw [acc_step _ _ hbm.1 hbm.2, show wrapA .i64 ((m : Int) - 1) = (m : Int) - 1 from wA (by omega) (by omega)]
    have hd : (bs.take k).drop m = bs[m] :: (bs.take k).drop (m + 1) := by
      rw [List.drop_eq_getElem_cons (by rw [List.length_take]; omega), List.getElem_take]
    have hv : bs[m] + 256 * valL ((bs.take k).drop (m + 1)) = valL ((bs.take k).drop m) := by rw [hd]; rfl
    rw [hv]
    exact ih lf (nx + 16) (by omega) (by omega) (by omega) h2
theorem num_spec {f : Nat} (hf : 12 ≤ f) (Y : YldF) {qb n0 k : Nat} (hk : k ≤ 8) (hq : n0 ≤ qb) {bs : List Int} (hb : Bytes bs) (hl : k ≤ bs.length) {h : AHeap} {nx : Nat} (w : Rdr h n0 qb bs) (lq : qb < nx) :
    ∃ h' nx', callP Try.prog keepT f Y 18 [.ptr (some (qb, 0)), .int .i64 (k : Int)] h nx = some (.int .i64 (wrapA .i64 (valL (bs.take k))), h', nx') ∧ Frm (fun j => j = qb) h nx h' nx' ∧ Rdr h' n0 qb (bs.drop k) := by
  obtain ⟨f, rfl⟩ : ∃ m, f = m + 1 := ⟨f - 1, by omega⟩
  rw [F18_eq]
  have h0 : (0 : Int) = wrapA .i64 (valL ((bs.take k).drop k)) := by
    rw [List.drop_of_length_le (by rw [List.length_take]; omega)]; simp only [valL]; rw [wA (by omega) (by omega)]
  rw [h0, show wrapA .i64 ((k : Int) - 1) = (k : Int) - 1 from wA (by omega) (by omega)]
  exact num_loop (f := f) (g := f) (Y := Y) hk hq hb hl w k f (nx + 5) (Nat.le_refl _) (by omega) (by omega) lq

/-- Numbers that take their places, one by one. -/
def part (ns : List Int) (i : Nat) : List Int := ns.take i ++ List.replicate (ns.length - i) 0
theorem part_len (ns : List Int) {i : Nat} (h : i ≤ ns.length) : (part ns i).length = ns.length := by simp [part]; omega
theorem part_set {ns : List Int} {i : Nat} (h : i < ns.length) : (ints .i64 (part ns i)).set i (.int .i64 ns[i]) = ints .i64 (part ns (i + 1)) := by
  unfold part ints
  obtain ⟨k, hk⟩ : ∃ k, ns.length - i = k + 1 := ⟨ns.length - i - 1, by omega⟩
  have hk2 : ns.length - (i + 1) = k := by omega
  rw [hk, hk2, ← List.map_set, List.set_append_right _ _ (by rw [List.length_take]; omega), List.length_take, Nat.min_eq_left (by omega), Nat.sub_self, List.replicate_succ, List.set_cons_zero, List.take_add_one, List.getElem?_eq_getElem h, Option.toList_some, List.append_assoc]
  rfl
theorem part_full (ns : List Int) : part ns ns.length = ns := by simp [part]

theorem dec_l1 {f : Nat} (hf : 12 ≤ f) {Y : YldF} {g n0 n1 rb xb sb qb : Nat} (hq : n0 ≤ qb) (hx : n0 ≤ xb) (hne : xb ≠ qb) (lq : qb < n1) (lx : xb < n1) {a : Option (Nat × Nat)} {n : Nat} {c : Option Nat} {bs : List Int} (hb : Bytes bs) (hl : bs.length = 128) {ns : List Int} (hns : ns.length = 13) (hv : ∀ i (hi : i < 9), ns[i]'(by omega) = wrapA .i64 (valL ((bs.drop (4 * i)).take 4))) {P : Option Res → Prop} {h0 : AHeap}
    (next : ∀ h nx lf, Frm (fun j => j = qb ∨ j = xb) h0 n1 h nx → h xb = some ⟨ints .i64 (part ns 9), 13, true⟩ → Rdr h n0 qb (bs.drop 36) → P (F9_L1 (callP Try.prog keepT f) Y g (lf + 1) a n c (some (rb, 0)) (some (xb, 0)) (some (sb, 0)) (some (qb, 0)) (ptrsL xb 0 9) 9 h nx)) (d : Nat) :
    ∀ (lf i : Nat) (h : AHeap) (nx : Nat), i + d = 9 → d < lf → Frm (fun j => j = qb ∨ j = xb) h0 n1 h nx → h xb = some ⟨ints .i64 (part ns i), 13, true⟩ → Rdr h n0 qb (bs.drop (4 * i)) → P (F9_L1 (callP Try.prog keepT f) Y g lf a n c (some (rb, 0)) (some (xb, 0)) (some (sb, 0)) (some (qb, 0)) (ptrsL xb 0 9) (i : Int) h nx) := by
  induction d with
  | zero =>
    intro lf i h nx e hlf fr ex w
    obtain ⟨lf, rfl⟩ : ∃ m, lf = m + 1 := ⟨lf - 1, by omega⟩
    obtain rfl : i = 9 := by omega
    exact next h nx lf fr ex w
  | succ d ih =>
    intro lf i h nx e hlf fr ex w
    obtain ⟨lf, rfl⟩ : ∃ m, lf = m + 1 := ⟨lf - 1, by omega⟩
    have l1 := fr.1
    rw [F9_L1_eq, if_pos (decide_eq_true (by omega)), if_pos ⟨by omega, by omega⟩, Int.toNat_natCast, Nat.mul_one, ptrs_at (by omega)]
    simp only [mst_]
    obtain ⟨h1, m1, r1, r2, r3⟩ := num_spec hf Y (k := 4) (by omega) hq (fun x hx => hb x (List.mem_of_mem_drop hx)) (by rw [List.length_drop]; omega) w (nx := nx + 7) (by omega)
    have r1' : callP Try.prog keepT f Y 18 [.ptr (some (qb, 0)), .int .i64 4] h (nx + 7) = _ := r1
    rw [r1']
    simp only [mst_]
    have ex1 := (r2.2 xb (by omega) hne).trans ex
    have hsi := part_set (ns := ns) (show i < ns.length by omega)
    rw [hv i (by omega)] at hsi
    rw [st_to ex1 (o := 0 + i) (cs' := ints .i64 (part ns (i + 1))) rfl (by rw [Nat.zero_add, ints, List.length_map, part_len _ (by omega)]; omega) (by rw [Nat.zero_add]; exact hsi), wsucc (i := i) (by omega)]
    have l2 := r2.1
    refine ih lf (i + 1) _ (m1 + 2) (by omega) (by omega) ⟨by omega, fun j hj hd => ?_⟩ (put_same _ _ _) ?_
    · rw [put_ne (fun q => hd (.inr q)), r2.2 j (by omega) (fun q => hd (.inl q)), fr.2 j hj hd]
    · rw [List.drop_drop] at r3
      rw [show 4 * (i + 1) = 4 * i + 4 by omega]
      exact r3.go (put_ne (Ne.symm hne)) (fun j hj => put_ne (by omega))

theorem dec_l2 {f : Nat} (hf : 12 ≤ f) {Y : YldF} {g n0 n1 rb xb sb qb : Nat} (hq : n0 ≤ qb) (hx : n0 ≤ xb) (hne : xb ≠ qb) (lq : qb < n1) (lx : xb < n1) {a : Option (Nat × Nat)} {n : Nat} {c : Option Nat} {bs : List Int} (hb : Bytes bs) (hl : bs.length = 128) {ns : List Int} (hns : ns.length = 13) (hv : ∀ i (hi : i < 4), ns[9 + i]'(by omega) = wrapA .i64 (valL ((bs.drop (36 + 8 * i)).take 8))) {P : Option Res → Prop} {h0 : AHeap}
    (next : ∀ h nx lf, Frm (fun j => j = qb ∨ j = xb) h0 n1 h nx → h xb = some ⟨ints .i64 (part ns 13), 13, true⟩ → Rdr h n0 qb (bs.drop 68) → P (F9_L2 (callP Try.prog keepT f) Y g (lf + 1) a n c (some (rb, 0)) (some (xb, 0)) (some (sb, 0)) (some (qb, 0)) (ptrsL xb 9 4) 4 h nx)) (d : Nat) :
    ∀ (lf i : Nat) (h : AHeap) (nx : Nat), i + d = 4 → d < lf → Frm (fun j => j = qb ∨ j = xb) h0 n1 h nx → h xb = some ⟨ints .i64 (part ns (9 + i)), 13, true⟩ → Rdr h n0 qb (bs.drop (36 + 8 * i)) → P (F9_L2 (callP Try.prog keepT f) Y g lf a n c (some (rb, 0)) (some (xb, 0)) (some (sb, 0)) (some (qb, 0)) (ptrsL xb 9 4) (i : Int) h nx) := by
  induction d with
  | zero =>
    intro lf i h nx e hlf fr ex w
    obtain ⟨lf, rfl⟩ : ∃ m, lf = m + 1 := ⟨lf - 1, by omega⟩
    obtain rfl : i = 4 := by omega
    exact next h nx lf fr ex w
  | succ d ih =>
    intro lf i h nx e hlf fr ex w
    obtain ⟨lf, rfl⟩ : ∃ m, lf = m + 1 := ⟨lf - 1, by omega⟩
    have l1 := fr.1
    rw [F9_L2_eq, if_pos (decide_eq_true (by omega)), if_pos ⟨by omega, by omega⟩, Int.toNat_natCast, Nat.mul_one, ptrs_at (by omega)]
    simp only [mst_]
    obtain ⟨h1, m1, r1, r2, r3⟩ := num_spec hf Y (k := 8) (by omega) hq (fun x hx => hb x (List.mem_of_mem_drop hx)) (by rw [List.length_drop]; omega) w (nx := nx + 7) (by omega)
    have r1' : callP Try.prog keepT f Y 18 [.ptr (some (qb, 0)), .int .i64 8] h (nx + 7) = _ := r1
    rw [r1']
    simp only [mst_]
    have ex1 := (r2.2 xb (by omega) hne).trans ex
    have hsi := part_set (ns := ns) (i := 9 + i) (show 9 + i < ns.length by omega)
    rw [hv i (by omega)] at hsi
    rw [st_to ex1 (o := 9 + i) (cs' := ints .i64 (part ns (9 + (i + 1)))) rfl (by rw [ints, List.length_map, part_len _ (by omega)]; omega) hsi, wsucc (i := i) (by omega)]
    have l2 := r2.1
    refine ih lf (i + 1) _ (m1 + 2) (by omega) (by omega) ⟨by omega, fun j hj hd => ?_⟩ (put_same _ _ _) ?_
    · rw [put_ne (fun q => hd (.inr q)), r2.2 j (by omega) (fun q => hd (.inl q)), fr.2 j hj hd]
    · rw [List.drop_drop] at r3
      rw [show 36 + 8 * (i + 1) = 36 + 8 * i + 8 by omega]
      exact r3.go (put_ne (Ne.symm hne)) (fun j hj => put_ne (by omega))

theorem dec_l3 {f : Nat} (hf : 12 ≤ f) {Y : YldF} {g n0 n1 rb xb sb qb : Nat} (hq : n0 ≤ qb) (hx : n0 ≤ sb) (hne : sb ≠ qb) (lq : qb < n1) (lx : sb < n1) {a : Option (Nat × Nat)} {n : Nat} {c : Option Nat} {bs : List Int} (hb : Bytes bs) (hl : bs.length = 128) {ns : List Int} (hns : ns.length = 4) (hv : ∀ i (hi : i < 4), ns[i]'(by omega) = wrapA .i64 (valL ((bs.drop (96 + 8 * i)).take 8))) {P : Option Res → Prop} {h0 : AHeap}
    (next : ∀ h nx lf, Frm (fun j => j = qb ∨ j = sb) h0 n1 h nx → h sb = some ⟨ints .i64 ns, 4, true⟩ → P (F9_L3 (callP Try.prog keepT f) Y g (lf + 1) a n c (some (rb, 0)) (some (xb, 0)) (some (sb, 0)) (some (qb, 0)) (ptrsL sb 0 4) 4 h nx)) (d : Nat) :
    ∀ (lf i : Nat) (h : AHeap) (nx : Nat), i + d = 4 → d < lf → Frm (fun j => j = qb ∨ j = sb) h0 n1 h nx → h sb = some ⟨ints .i64 (part ns i), 4, true⟩ → Rdr h n0 qb (bs.drop (96 + 8 * i)) → P (F9_L3 (callP Try.prog keepT f) Y g lf a n c (some (rb, 0)) (some (xb, 0)) (some (sb, 0)) (some (qb, 0)) (ptrsL sb 0 4) (i : Int) h nx) := by
  induction d with
  | zero =>
    intro lf i h nx e hlf fr ex w
    obtain ⟨lf, rfl⟩ : ∃ m, lf = m + 1 := ⟨lf - 1, by omega⟩
    obtain rfl : i = 4 := by omega
    have : part ns 4 = ns := by rw [← hns]; exact part_full ns
    rw [this] at ex
    exact next h nx lf fr ex
  | succ d ih =>
    intro lf i h nx e hlf fr ex w
    obtain ⟨lf, rfl⟩ : ∃ m, lf = m + 1 := ⟨lf - 1, by omega⟩
    have l1 := fr.1
    rw [F9_L3_eq, if_pos (decide_eq_true (by omega)), if_pos ⟨by omega, by omega⟩, Int.toNat_natCast, Nat.mul_one, ptrs_at (by omega)]
    simp only [mst_]
    obtain ⟨h1, m1, r1, r2, r3⟩ := num_spec hf Y (k := 8) (by omega) hq (fun x hx => hb x (List.mem_of_mem_drop hx)) (by rw [List.length_drop]; omega) w (nx := nx + 7) (by omega)
    have r1' : callP Try.prog keepT f Y 18 [.ptr (some (qb, 0)), .int .i64 8] h (nx + 7) = _ := r1
    rw [r1']
    simp only [mst_]
    have ex1 := (r2.2 sb (by omega) hne).trans ex
    have hsi := part_set (ns := ns) (i := i) (show i < ns.length by omega)
    rw [hv i (by omega)] at hsi
    rw [st_to ex1 (o := 0 + i) (cs' := ints .i64 (part ns (i + 1))) rfl (by rw [Nat.zero_add, ints, List.length_map, part_len _ (by omega)]; omega) (by rw [Nat.zero_add]; exact hsi), wsucc (i := i) (by omega)]
    have l2 := r2.1
    refine ih lf (i + 1) _ (m1 + 2) (by omega) (by omega) ⟨by omega, fun j hj hd => ?_⟩ (put_same _ _ _) ?_
    · rw [put_ne (fun q => hd (.inr q)), r2.2 j (by omega) (fun q => hd (.inl q)), fr.2 j hj hd]
    · rw [List.drop_drop] at r3
      rw [show 96 + 8 * (i + 1) = 96 + 8 * i + 8 by omega]
      exact r3.go (put_ne (Ne.symm hne)) (fun j hj => put_ne (by omega))

end Go.Proofs.Ytkidbgfegnmhdaa.T
