/- Trees: read. -/
import Derived.Test.YtogmdfbamgjjfaaH7
set_option linter.unusedVariables false
set_option linter.unusedSimpArgs false
namespace Go.Proofs.Ytogmdfbamgjjfaa.T
open Go Go.RowKit Go.Proofs

/-- The byte of a tree of level l at a place. -/
def cont : Nat → Tr → Nat → Int
  | 0, t, x => t.dat x
  | l + 1, t, x => cont l (t.kids (x / room l)) (x % room l)
theorem cont_nil : ∀ (l x : Nat), cont l .nil x = 0
  | 0, _ => rfl
  | l + 1, x => by simp only [cont]; exact cont_nil l _

def rowB (n : Nat) (out : Nat → Int) : List AV := (List.range n).map fun x => .int .u8 (out x)
theorem rowB_len (n : Nat) (out : Nat → Int) : (rowB n out).length = n := by simp [rowB]
theorem rowB_at {n x : Nat} (out : Nat → Int) (h : x < n) : (rowB n out)[x]? = some (.int .u8 (out x)) := by simp [rowB, h]
theorem rowB_congr {n : Nat} {a b : Nat → Int} (h : ∀ x, x < n → a x = b x) : rowB n a = rowB n b := by
  apply List.ext_getElem?
  intro j
  by_cases c : j < n
  · rw [rowB_at _ c, rowB_at _ c, h j c]
  · rw [List.getElem?_eq_none (by rw [rowB_len]; omega), List.getElem?_eq_none (by rw [rowB_len]; omega)]
theorem rowB_set {n x : Nat} (out : Nat → Int) (v : Int) : (rowB n out).set x (.int .u8 v) = rowB n (up out x v) := by
  apply List.ext_getElem?
  intro j
  rw [List.getElem?_set]
  by_cases c : x = j
  · subst c
    rw [if_pos rfl]
    by_cases hj : x < n
    · rw [if_pos (by rw [rowB_len]; exact hj), rowB_at _ hj, up_same]
    · rw [if_neg (by rw [rowB_len]; exact hj), List.getElem?_eq_none (by rw [rowB_len]; omega)]
  · rw [if_neg c]
    by_cases hj : j < n
    · rw [rowB_at _ hj, rowB_at _ hj, up_ne (fun e => c e.symm)]
    · rw [List.getElem?_eq_none (by rw [rowB_len]; omega), List.getElem?_eq_none (by rw [rowB_len]; omega)]

theorem rleaf_loop {f : Nat} {Y : YldF} {g base n o : Nat} {c : Bool} {ds : Nat → Int} (hn : n ≤ 10000) (hb : base ≤ 100000) (out : Nat → Int) (d : Nat) :
    ∀ (lf i : Nat) (o1 : Nat → Int) (h : AHeap) (nx : Nat), i + d = 64 → d < lf → (∀ x, x < n → o1 x = if base ≤ x ∧ x < base + i then ds (x - base) else out x) → h o = some ⟨rowB n o1, 1, true⟩ →
      ∃ o2 h' nx', F31_L2 (callP Try.prog keepT f) Y g lf (base : Int) 0 (some (o, 0)) n c (datC ds) (i : Int) h nx = some (.tuple [], h', nx') ∧ nx ≤ nx' ∧ (∀ j, j ≠ o → h' j = h j) ∧ h' o = some ⟨rowB n o2, 1, true⟩ ∧ ∀ x, x < n → o2 x = if base ≤ x ∧ x < base + 64 then ds (x - base) else out x := by
  induction d with
  | zero =>
    intro lf i o1 h nx e hl h1 hv
    obtain ⟨lf, rfl⟩ : ∃ m, lf = m + 1 := ⟨lf - 1, by omega⟩
    obtain rfl : i = 64 := by omega
    rw [F31_L2_eq, if_neg (by decide)]
    exact ⟨o1, _, _, rfl, by omega, fun _ _ => rfl, hv, h1⟩
  | succ d ih =>
    intro lf i o1 h nx e hl h1 hv
    obtain ⟨lf, rfl⟩ : ∃ m, lf = m + 1 := ⟨lf - 1, by omega⟩
    have hk : wrapA .i64 (wrapA .i64 ((base : Int) + (i : Int)) - 0) = ((base + i : Nat) : Int) := by rw [wA (x := (base : Int) + (i : Int)) (by omega) (by omega), wA (by omega) (by omega)]; omega
    rw [F31_L2_eq, if_pos (decide_eq_true (by omega)), if_pos ⟨by omega, by omega⟩, Int.toNat_natCast, Nat.mul_one, dat_at _ (by omega)]
    simp only [mst_]
    rw [hk, wsucc (by omega), if_pos (decide_eq_true (by omega))]
    by_cases c2 : base + i < n
    · rw [if_pos (decide_eq_true (by omega)), if_pos ⟨by omega, by omega⟩, Int.toNat_natCast, Nat.mul_one, Nat.zero_add, st_to hv rfl (by rw [rowB_len]; omega) (rowB_set o1 _)]
      obtain ⟨o2, h', nx', r1, r2, r3, r4, r5⟩ := ih lf (i + 1) (up o1 (base + i) (ds i)) (h.put o (some ⟨rowB n (up o1 (base + i) (ds i)), 1, true⟩)) (nx + 26) (by omega) (by omega) (fun x hx => by
        by_cases c3 : x = base + i
        · subst c3; rw [up_same, if_pos ⟨by omega, by omega⟩, show base + i - base = i by omega]
        · rw [up_ne c3, h1 x hx]
          by_cases c4 : base ≤ x ∧ x < base + i
          · rw [if_pos c4, if_pos ⟨c4.1, by omega⟩]
          · rw [if_neg c4, if_neg (by omega)]) (put_same _ _ _)
      exact ⟨o2, h', nx', r1, by omega, fun j hj => (r3 j hj).trans (put_ne hj), r4, r5⟩
    · rw [if_neg (by rw [decide_eq_true_eq]; omega)]
      obtain ⟨o2, h', nx', r1, r2, r3, r4, r5⟩ := ih lf (i + 1) o1 h (nx + 21) (by omega) (by omega) (fun x hx => by
        rw [h1 x hx]
        by_cases c4 : base ≤ x ∧ x < base + i
        · rw [if_pos c4, if_pos ⟨c4.1, by omega⟩]
        · rw [if_neg c4, if_neg (by omega)]) hv
      exact ⟨o2, h', nx', r1, by omega, r3, r4, r5⟩

/-- What read does, at level l, into n bytes at o. -/
def RS (A : Nat → Prop) (n o : Nat) (c : Bool) (Y : YldF) (f l : Nat) : Prop :=
  ∀ (p : Option (Nat × Nat)) (t : Tr) (base : Nat) (out : Nat → Int) (h : AHeap) (nx : Nat), Kd A (l + 1) h p t → h o = some ⟨rowB n out, 1, true⟩ → (∀ x, base ≤ x → x < n → out x = 0) → base + room l ≤ 8192 →
    ∃ o2 h' nx', callP Try.prog keepT f Y 31 [.ptr p, .int .i64 (base : Int), .int .i64 0, .slice (some (o, 0)) n c] h nx = some (.tuple [], h', nx') ∧ nx ≤ nx' ∧ (∀ j, j ≠ o → h' j = h j) ∧ h' o = some ⟨rowB n o2, 1, true⟩ ∧ ∀ x, x < n → o2 x = if base ≤ x ∧ x < base + room l then cont l t (x - base) else out x

theorem r_loop {A : Nat → Prop} {n o : Nat} {c : Bool} {Y : YldF} {f l : Nat} (hf : 1 ≤ f) (rs : RS A n o c Y f l) (hA : ∀ x, A x → x ≠ o) (l2 : l ≤ 2) {g b id bi base : Nat} {q : Nat → Option (Nat × Nat)} {k : Nat → Tr} {ds : Nat → Int} (hb : A b) (hbase : base + room (l + 1) ≤ 8192) (out : Nat → Int) (h0 : ∀ x, base ≤ x → x < n → out x = 0) (d : Nat) :
    ∀ (lf i : Nat) (o1 : Nat → Int) (h : AHeap) (nx : Nat), i + d = 4 → d < lf → (∀ x, x < n → o1 x = if base ≤ x ∧ x < base + i * room l then cont (l + 1) (.nd id bi k ds) (x - base) else out x) → h o = some ⟨rowB n o1, 1, true⟩ → h b = some (blkN id bi (l + 1) q ds) → (∀ j, j < 4 → Kd A (l + 1) h (q j) (k j)) →
      ∃ o2 h' nx', F31_L3 (callP Try.prog keepT f) Y g lf (some (b, 0)) (base : Int) 0 (some (o, 0)) n c [.ptr (q 0), .ptr (q 1), .ptr (q 2), .ptr (q 3)] (i : Int) h nx = some (.tuple [], h', nx') ∧ nx ≤ nx' ∧ (∀ j, j ≠ o → h' j = h j) ∧ h' o = some ⟨rowB n o2, 1, true⟩ ∧ ∀ x, x < n → o2 x = if base ≤ x ∧ x < base + room (l + 1) then cont (l + 1) (.nd id bi k ds) (x - base) else out x := by
  have hr := room_succ l
  have hrp := room_pos l
  have hrl := room3_le (l := l) (by omega)
  induction d with
  | zero =>
    intro lf i o1 h nx e hl h1 hv hnb hk
    obtain ⟨lf, rfl⟩ : ∃ m, lf = m + 1 := ⟨lf - 1, by omega⟩
    obtain rfl : i = 4 := by omega
    rw [F31_L3_eq, if_neg (by decide)]
    exact ⟨o1, _, _, rfl, by omega, fun _ _ => rfl, hv, by rw [hr]; exact h1⟩
  | succ d ih =>
    intro lf i o1 h nx e hl h1 hv hnb hk
    obtain ⟨lf, rfl⟩ : ∃ m, lf = m + 1 := ⟨lf - 1, by omega⟩
    have hi : i < 4 := by omega
    have hir : i * room l + room l ≤ 4 * room l := by
      have : (i + 1) * room l ≤ 4 * room l := Nat.mul_le_mul_right _ (by omega)
      rw [Nat.add_mul, Nat.one_mul] at this; exact this
    have hsu : (i + 1) * room l = i * room l + room l := by rw [Nat.add_mul, Nat.one_mul]
    have hii : (i : Int) * (room l : Int) = ((i * room l : Nat) : Int) := by push_cast; rfl
    rw [F31_L3_eq, if_pos (decide_eq_true (by omega)), if_pos ⟨by omega, by omega⟩, Int.toNat_natCast, Nat.mul_one, kid_at q hi]
    simp only [mst_]
    rw [Nat.zero_add, ld_at (show h b = some ⟨cellsN id bi (l + 1) q ds, 1, true⟩ from hnb) (v := .int .i64 ((l + 1 : Nat) : Int)) rfl]
    simp only [mst_]
    rw [show wrapA .i64 (((l + 1 : Nat) : Int) - 1) = (l : Int) by rw [wA (by omega) (by omega)]; omega]
    rw [room_spec hf Y (by omega)]
    simp only [mst_]
    rw [hii, wA (x := ((i * room l : Nat) : Int)) (by omega) (by omega), show wrapA .i64 ((base : Int) + ((i * room l : Nat) : Int)) = ((base + i * room l : Nat) : Int) by rw [wA (by omega) (by omega)]; push_cast; rfl]
    obtain ⟨o2, h1', n1, g1, g2, g3, g4, g5⟩ := rs (q i) (k i) (base + i * room l) o1 h (nx + 19 + 5) (hk i hi) hv (fun x x1 x2 => by rw [h1 x x2, if_neg (by omega)]; exact h0 x (by omega) x2) (by omega)
    rw [g1]
    simp only [mst_]
    rw [wsucc (by omega)]
    obtain ⟨o3, h', nx', r1, r2, r3, r4, r5⟩ := ih lf (i + 1) o2 h1' (n1 + 2) (by omega) (by omega) (fun x hx => by
      rw [g5 x hx]
      by_cases c1 : base + i * room l ≤ x ∧ x < base + i * room l + room l
      · rw [if_pos c1, if_pos ⟨by omega, by omega⟩]
        have e1 : (x - base) / room l = i := by
          rw [show x - base = (x - (base + i * room l)) + i * room l by omega, Nat.add_mul_div_right _ _ hrp, Nat.div_eq_of_lt (by omega), Nat.zero_add]
        have e2 : (x - base) % room l = x - (base + i * room l) := by
          rw [show x - base = (x - (base + i * room l)) + i * room l by omega, Nat.add_mul_mod_self_right, Nat.mod_eq_of_lt (by omega)]
        simp only [cont]
        rw [e1, e2]; rfl
      · rw [if_neg c1, h1 x hx]
        by_cases c2 : base ≤ x ∧ x < base + i * room l
        · rw [if_pos c2, if_pos ⟨c2.1, by omega⟩]
        · rw [if_neg c2, if_neg (by omega)]) g4 ((g3 b (hA b hb)).trans hnb) (fun j hj => (hk j hj).go (fun _ z => z) (fun x hx => g3 x (hA x hx)))
    exact ⟨o3, h', nx', r1, by omega, fun j hj => (r3 j hj).trans (g3 j hj), r4, r5⟩

theorem rs_one {A : Nat → Prop} {n o : Nat} {c : Bool} {Y : YldF} (hA : ∀ x, A x → x ≠ o) (hn : n ≤ 10000) {l f : Nat} (l3 : l ≤ 3) (hf : 70 ≤ f) (kw : ∀ l', l = l' + 1 → RS A n o c Y f l') : RS A n o c Y (f + 1) l := by
  intro p t base out h nx kd hv h0 hbase
  rw [F31_eq]
  have hrp := room_pos l
  rcases kd with ⟨rfl, rfl⟩ | ⟨id, bi, k, ds, b, q, rfl, rfl, hb, hnb, hk⟩
  · rw [if_pos (by simp)]
    exact ⟨out, h, _, rfl, by omega, fun _ _ => rfl, hv, fun x hx => by
      rw [cont_nil]; split
      · rename_i c; exact h0 x c.1 hx
      · rfl⟩
  rw [if_neg (by simp)]
  simp only [mst_]
  rw [Nat.zero_add, ld_at (show h b = some ⟨cellsN id bi l q ds, 1, true⟩ from hnb) (v := .int .i64 (l : Int)) rfl]
  simp only [mst_]
  rw [room_spec (by omega) Y (by omega)]
  simp only [mst_]
  rw [show wrapA .i64 ((base : Int) + (room l : Int)) = ((base + room l : Nat) : Int) by rw [wA (by omega) (by omega)]; push_cast; rfl, if_neg (by rw [decide_eq_true_eq]; omega), show wrapA .i64 ((0 : Int) + ((n : Nat) : Int)) = (n : Int) by rw [wA (by omega) (by omega)]; omega]
  by_cases c1 : n ≤ base
  · rw [if_pos (decide_eq_true (by omega))]
    exact ⟨out, h, _, rfl, by omega, fun _ _ => rfl, hv, fun x hx => by rw [if_neg (by omega)]⟩
  rw [if_neg (by rw [decide_eq_true_eq]; omega), F31_J1_eq]
  simp only [mst_]
  rw [Nat.zero_add, ld_at (show h b = some ⟨cellsN id bi l q ds, 1, true⟩ from hnb) (v := .int .i64 (l : Int)) rfl]
  simp only [mst_]
  cases l with
  | zero =>
    rw [if_pos (by decide), show 0 + 7 = 7 from rfl, ldr_at (show h b = some ⟨cellsN id bi 0 q ds, 1, true⟩ from hnb) (by rw [cellsN_len]; omega), cellsN_dat]
    obtain ⟨o2, h', nx', r1, r2, r3, r4, r5⟩ := rleaf_loop (f := f) (Y := Y) (g := f) (base := base) (n := n) (o := o) (c := c) (ds := ds) hn (by omega) out 64 f 0 out h (nx + 21 + 5 + 10) rfl (by omega) (fun x hx => by rw [if_neg (by omega)]) hv
    exact ⟨o2, h', nx', r1, by omega, r3, r4, r5⟩
  | succ l =>
    rw [if_neg (by rw [beq_iff_eq]; omega), show 0 + 3 = 3 from rfl, ldr_at (show h b = some ⟨cellsN id bi (l + 1) q ds, 1, true⟩ from hnb) (by rw [cellsN_len]; omega), cellsN_kids]
    obtain ⟨o2, h', nx', r1, r2, r3, r4, r5⟩ := r_loop (by omega) (kw l rfl) hA (by omega) (g := f) (id := id) (bi := bi) (base := base) (k := k) (ds := ds) (q := q) hb hbase out h0 4 f 0 out h (nx + 21 + 5 + 10) (by omega) (by omega) (fun x hx => by rw [if_neg (by omega)]) hv hnb hk
    exact ⟨o2, h', nx', r1, by omega, r3, r4, r5⟩

theorem rs_all {A : Nat → Prop} {n o : Nat} {c : Bool} {Y : YldF} (hA : ∀ x, A x → x ≠ o) (hn : n ≤ 10000) : ∀ (l f : Nat), l ≤ 3 → 71 + l ≤ f → RS A n o c Y f l := by
  intro l
  induction l with
  | zero =>
    intro f l3 hf
    obtain ⟨f, rfl⟩ : ∃ m, f = m + 1 := ⟨f - 1, by omega⟩
    exact rs_one hA hn l3 (by omega) (fun l' e => by omega)
  | succ l ih =>
    intro f l3 hf
    obtain ⟨f, rfl⟩ : ∃ m, f = m + 1 := ⟨f - 1, by omega⟩
    exact rs_one hA hn l3 (by omega) (fun l' e => (show l = l' by omega) ▸ ih f (by omega) (by omega))

/-- The bytes of a version. -/
def bytesV (s : Nat) (t : Tr) : List Int := (List.range s).map fun x => cont (lev s) t x
theorem bytesV_len (s : Nat) (t : Tr) : (bytesV s t).length = s := by simp [bytesV]

/-- read from 0 on, all of it. -/
theorem vread_spec {A : Nat → Prop} {f : Nat} (hf : 80 ≤ f) (Y : YldF) {h : AHeap} {nx s : Nat} (hs : s ≤ 4096) (hA : ∀ x, A x → x < nx) {p : Option (Nat × Nat)} {t : Tr} (kd : Kd A (lev s + 1) h p t) :
    ∃ a c h' nx', callP Try.prog keepT f Y 27 [.agg [.ptr p, .int .i64 (s : Int)], .int .i64 0, .int .i64 4096] h nx = some (.slice a s c, h', nx') ∧ Ext h nx h' nx' ∧ OwnSl h' nx nx' a s 1 (ints .u8 (bytesV s t)) := by
  obtain ⟨f, rfl⟩ : ∃ m, f = m + 1 := ⟨f - 1, by omega⟩
  rw [F27_eq]
  dsimp only
  generalize hh1 : h.put nx _ = h1
  have e1 : h1 nx = some ⟨[.ptr p, .int .i64 (s : Int)], 2, true⟩ := by rw [← hh1, put_same]
  have x1 : ∀ i, i < nx → h1 i = h i := fun i hi => by rw [← hh1, put_ne (by omega)]
  rw [ld_at e1 (v := .int .i64 (s : Int)) rfl]
  simp only [mst_]
  by_cases c0 : s = 0
  · subst c0
    rw [if_pos (by decide)]
    exact ⟨none, false, h1, _, rfl, ⟨by omega, x1⟩, by simp [bytesV, ints], .inl ⟨rfl, rfl⟩⟩
  rw [if_neg (by rw [decide_eq_true_eq]; omega), ld_at e1 (v := .int .i64 (s : Int)) rfl]
  simp only [mst_]
  have hmin : (if wrapA .i64 ((s : Int) - 0) < 4096 then wrapA .i64 ((s : Int) - 0) else (4096 : Int)) = (s : Int) := by
    rw [wA (by omega) (by omega)]; split <;> omega
  rw [hmin, if_pos (by simp; omega), Int.toNat_natCast]
  have hld : ldA (h1.put (nx + 12) (some ⟨madeA [.int .u8 0] (s * 1), 1, true⟩)) nx 0 = some (.ptr p) := by
    unfold ldA; rw [put_ne (by omega), e1]; rfl
  rw [hld]
  simp only [mst_]
  have hrow : madeA [.int .u8 0] (s * 1) = rowB s (fun _ => 0) := by
    rw [show madeA [.int .u8 0] (s * 1) = List.replicate s (.int .u8 0) by simp [madeA]]
    simp only [rowB, List.map_const', List.length_range]
  rw [hrow]
  have hr := room3_le (l := lev s) (lev_le s)
  have hls := lev_room hs
  obtain ⟨o2, h2, n2, r1, r2, r3, r4, r5⟩ := rs_all (A := A) (n := s) (o := nx + 12) (c := (s : Int) == (s : Int)) (Y := Y) (fun x hx => by have := hA x hx; omega) (by omega) (lev s) f (lev_le s) (by have := lev_le s; omega) p t 0 (fun _ => 0) (h1.put (nx + 12) (some ⟨rowB s (fun _ => 0), 1, true⟩)) (nx + 19) (kd.go (fun _ q => q) (fun x hx => by have := hA x hx; rw [put_ne (by omega)]; exact x1 x this)) (put_same _ _ _) (fun _ _ _ => rfl) (by omega)
  rw [show ((0 : Nat) : Int) = 0 from rfl] at r1
  rw [r1]
  simp only [mst_]
  refine ⟨_, _, _, _, rfl, ⟨by omega, fun i hi => by rw [r3 i (by omega), put_ne (by omega)]; exact x1 i hi⟩, by simp [ints, bytesV], .inr ⟨nx + 12, rfl, by omega, by omega, ?_⟩⟩
  rw [r4]
  congr 2
  show _ = (bytesV s t).map (AV.int .u8)
  unfold bytesV
  rw [List.map_map]
  show _ = rowB s (fun x => cont (lev s) t x)
  exact rowB_congr (fun x hx => by rw [r5 x hx, if_pos ⟨by omega, by omega⟩, Nat.sub_zero])

end Go.Proofs.Ytogmdfbamgjjfaa.T
