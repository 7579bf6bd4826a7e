/- Trees: what a cut makes; the walk of cut. -/
import Derived.Test.YtogmdfbamgjjfaaH4
set_option linter.unusedVariables false
set_option linter.unusedSimpArgs false
namespace Go.Proofs.Ytogmdfbamgjjfaa.T
open Go Go.RowKit Go.Proofs

def cutD (e base : Nat) (ds : Nat → Int) : Nat → Int := fun i => if base + i < e then ds i else 0
/-- What is left of a tree of level l ahead of a place. -/
def ct (now e : Nat) : Nat → Nat → Tr → Nat → Tr × Nat
  | 0, base, t, m => match t with
    | .nil => (.nil, m)
    | .nd id b k ds => if e ≤ base then (.nil, m) else if base + room 0 ≤ e then (.nd id b k ds, m) else (.nd (m + 1) now k (cutD e base ds), m + 1)
  | l + 1, base, t, m => match t with
    | .nil => (.nil, m)
    | .nd id b k ds => if e ≤ base then (.nil, m) else if base + room (l + 1) ≤ e then (.nd id b k ds, m) else
      (.nd (m + 1) now (fold (fun i t m => ct now e l (base + i * room l) t m) k (m + 1) 4).1 ds, (fold (fun i t m => ct now e l (base + i * room l) t m) k (m + 1) 4).2)
theorem ct_nil (now e l base m : Nat) : ct now e l base .nil m = (.nil, m) := by cases l <;> simp [ct]
theorem ct_le (now e : Nat) : ∀ (l base : Nat) (t : Tr) (m : Nat), m ≤ (ct now e l base t m).2 ∧ (ct now e l base t m).2 ≤ m + 6 ^ (l + 1)
  | 0, base, t, m => by
    cases t with
    | nil => simp [ct]
    | nd id b k ds => simp only [ct]; split; simp only; omega; split <;> simp only <;> omega
  | l + 1, base, t, m => by
    cases t with
    | nil => simp [ct]
    | nd id b k ds =>
      have b := fold_le (g := fun i t m => ct now e l (base + i * room l) t m) (c := 6 ^ (l + 1)) (fun i t m => ct_le now e l _ t m) k (m + 1) 4
      have := Nat.pow_pos (n := l + 1) (show 0 < 6 by omega)
      have := Nat.pow_succ 6 (l + 1)
      simp only [ct]; split; simp only; omega; split <;> simp only <;> omega

theorem splice_dat (id bi lv : Nat) (q : Nat → Option (Nat × Nat)) (ds : Nat → Int) {k : Nat} (hk : k < 64) : splice (cellsN id bi lv q ds) (7 + k) (madeA [.int .u8 0] ((64 - k) * 1)) = cellsN id bi lv q (fun i => if i < k then ds i else 0) := by
  have hm : madeA [.int .u8 0] ((64 - k) * 1) = List.replicate (64 - k) (.int .u8 0) := by simp [madeA]
  rw [hm]
  unfold splice
  rw [List.drop_of_length_le (by rw [cellsN_len]; simp; omega), List.append_nil, show 7 + k = k + 1 + 1 + 1 + 1 + 1 + 1 + 1 by omega]
  simp only [cellsN, List.take_succ_cons, List.cons_append]
  have : List.take k (datC ds) ++ List.replicate (64 - k) (.int .u8 0) = datC (fun i => if i < k then ds i else 0) := by
    apply List.ext_getElem?
    intro j
    by_cases hj : j < 64
    · rw [dat_at _ hj]
      by_cases c : j < k
      · rw [List.getElem?_append_left (by rw [List.length_take, datC_len]; omega), List.getElem?_take, if_pos c, dat_at _ hj, if_pos c]
      · rw [List.getElem?_append_right (by rw [List.length_take, datC_len]; omega), List.getElem?_replicate, if_pos (by rw [List.length_take, datC_len]; omega), if_neg c]
    · rw [List.getElem?_eq_none (by rw [List.length_append, List.length_take, datC_len, List.length_replicate]; omega), List.getElem?_eq_none (by rw [datC_len]; omega)]
  rw [this]

/-- What cut does, at level l. -/
def CS (A : Nat → Prop) (now n0 F : Nat) (va : Option (Nat × Nat)) (vc : Bool) (e : Nat) (Y : YldF) (f l : Nat) : Prop :=
  ∀ (p : Option (Nat × Nat)) (t : Tr) (m base : Nat) (h : AHeap) (nx : Nat), Kd A (l + 1) h p t → n0 ≤ nx → base + room l ≤ 8192 → FrB h F va now vc m → m + 6 ^ (l + 1) ≤ 1000000 →
    ∃ p' h' nx', callP Try.prog keepT f Y 30 [.ptr (some (F, 0)), .ptr p, .int .i64 (base : Int), .int .i64 (e : Int)] h nx = some (.ptr p', h', nx') ∧ Frm (fun i => i = F) h nx h' nx' ∧ FrB h' F va now vc (ct now e l base t m).2 ∧ Kd (fun x => A x ∨ nx ≤ x ∧ x < nx') (l + 1) h' p' (ct now e l base t m).1

theorem c_loop {A : Nat → Prop} {now n0 F : Nat} {va : Option (Nat × Nat)} {vc : Bool} {e : Nat} {Y : YldF} {f l : Nat} (hf : 1 ≤ f) (cs : CS A now n0 F va vc e Y f l) (hA : ∀ x, A x → x < n0 ∧ x ≠ F) (hFn : F < n0) (l2 : l ≤ 2)
    {g b id base m N : Nat} {q : Nat → Option (Nat × Nat)} {k : Nat → Tr} {ds : Nat → Int} (n0b : n0 ≤ b) (bN : b < N) (hm : m + 4 * 6 ^ (l + 1) ≤ 1000000) (hbase : base + room (l + 1) ≤ 8192) (d : Nat) :
    ∀ (lf i : Nat) (qi : Nat → Option (Nat × Nat)) (h : AHeap) (nx : Nat), i + d = 4 → d < lf → N ≤ nx → h b = some (blkN id now (l + 1) qi ds) → FrB h F va now vc (fold (fun i t m => ct now e l (base + i * room l) t m) k m i).2 →
      (∀ j, i ≤ j → j < 4 → Kd A (l + 1) h (q j) (k j)) → (∀ j, j < i → Kd (fun x => A x ∨ N ≤ x ∧ x < nx) (l + 1) h (qi j) ((fold (fun i t m => ct now e l (base + i * room l) t m) k m i).1 j)) →
      ∃ q' h' nx', F30_L2 (callP Try.prog keepT f) Y g lf (some (F, 0)) (some (b, 0)) (base : Int) (e : Int) [.ptr (q 0), .ptr (q 1), .ptr (q 2), .ptr (q 3)] (i : Int) h nx = some (.ptr (some (b, 0)), h', nx') ∧
        Frm (fun x => x = F ∨ x = b) h nx h' nx' ∧ h' b = some (blkN id now (l + 1) q' ds) ∧ FrB h' F va now vc (fold (fun i t m => ct now e l (base + i * room l) t m) k m 4).2 ∧
        ∀ j, j < 4 → Kd (fun x => A x ∨ N ≤ x ∧ x < nx') (l + 1) h' (q' j) ((fold (fun i t m => ct now e l (base + i * room l) t m) k m 4).1 j) := by
  have hr := room_succ l
  have hrl := room3_le (l := l) (by omega)
  induction d with
  | zero =>
    intro lf i qi h nx e0 hl hN hv hF hk hd
    obtain ⟨lf, rfl⟩ : ∃ m, lf = m + 1 := ⟨lf - 1, by omega⟩
    obtain rfl : i = 4 := by omega
    rw [F30_L2_eq, if_neg (by decide)]
    exact ⟨qi, _, _, rfl, ⟨by omega, fun _ _ _ => rfl⟩, hv, hF, fun j hj => (hd j hj).go (fun x hx => by rcases hx with hx | hx; exact .inl hx; exact .inr ⟨hx.1, by omega⟩) (fun _ _ => rfl)⟩
  | succ d ih =>
    intro lf i qi h nx e0 hl hN hv hF hk hd
    obtain ⟨lf, rfl⟩ : ∃ m, lf = m + 1 := ⟨lf - 1, by omega⟩
    have hi : i < 4 := by omega
    have hfl := (fold_le (g := fun i t m => ct now e l (base + i * room l) t m) (c := 6 ^ (l + 1)) (fun i t m => ct_le now e l _ t m) k m i).2
    have hi6 : i * 6 ^ (l + 1) + 6 ^ (l + 1) ≤ 4 * 6 ^ (l + 1) := by
      have : (i + 1) * 6 ^ (l + 1) ≤ 4 * 6 ^ (l + 1) := Nat.mul_le_mul_right _ (by omega)
      rw [Nat.add_mul, Nat.one_mul] at this; exact this
    have hir : i * room l + room l ≤ 4 * room l := by
      have : (i + 1) * room l ≤ 4 * room l := Nat.mul_le_mul_right _ (by omega)
      rw [Nat.add_mul, Nat.one_mul] at this; exact this
    have hii : (i : Int) * (room l : Int) = ((i * room l : Nat) : Int) := by push_cast; rfl
    rw [F30_L2_eq, if_pos (decide_eq_true (by omega)), if_pos ⟨by omega, by omega⟩, Int.toNat_natCast, Nat.mul_one, kid_at q hi]
    simp only [mst_]
    rw [Nat.zero_add, ld_at (show h b = some ⟨cellsN id now (l + 1) qi ds, 1, true⟩ from hv) (v := .int .i64 ((l + 1 : Nat) : Int)) rfl]
    simp only [mst_]
    rw [show wrapA .i64 (((l + 1 : Nat) : Int) - 1) = (l : Int) by rw [wA (by omega) (by omega)]; omega]
    rw [room_spec hf Y (by omega)]
    simp only [mst_]
    rw [hii, wA (x := ((i * room l : Nat) : Int)) (by omega) (by omega), show wrapA .i64 ((base : Int) + ((i * room l : Nat) : Int)) = ((base + i * room l : Nat) : Int) by rw [wA (by omega) (by omega)]; push_cast; rfl]
    obtain ⟨p', h1, n1, g1, g2, g3, g4⟩ := cs (q i) (k i) _ (base + i * room l) h (nx + 25 + 5) (hk i (Nat.le_refl _) hi) (by omega) (by omega) hF (by omega)
    rw [g1]
    simp only [mst_]
    have l1 := g2.1
    have hv1 : h1 b = some ⟨cellsN id now (l + 1) qi ds, 1, true⟩ := (g2.2 b (by omega) (by omega)).trans hv
    rw [if_pos ⟨by omega, by omega⟩, Nat.zero_add, st_to hv1 rfl (by rw [cellsN_len]; omega) (cellsN_setk id now (l + 1) qi ds hi p'), wsucc (by omega)]
    have fr : Frm (fun x => x = F ∨ x = b) h nx (h1.put b (some ⟨cellsN id now (l + 1) (up qi i p') ds, 1, true⟩)) (n1 + 2) := ⟨by omega, fun x hx hd => by rw [put_ne (fun e => hd (.inr e))]; exact g2.2 x (by omega) (fun e => hd (.inl e))⟩
    have keep : ∀ x, A x ∨ N ≤ x ∧ x < nx → (h1.put b (some ⟨cellsN id now (l + 1) (up qi i p') ds, 1, true⟩)) x = h x := fun x hx => fr.2 x (by rcases hx with hx | hx; have := hA x hx; omega; omega) (by
      rcases hx with hx | hx
      · have := hA x hx; omega
      · omega)
    obtain ⟨q', h', nx', r1, r2, r3, r4, r5⟩ := ih lf (i + 1) (up qi i p') (h1.put b (some ⟨cellsN id now (l + 1) (up qi i p') ds, 1, true⟩)) (n1 + 2) (by omega) (by omega) (by omega) (put_same _ _ _) (by unfold FrB; rw [put_ne (by omega)]; exact g3) (fun j j1 j2 => (hk j (by omega) j2).go (fun _ z => z) (fun x hx => keep x (.inl hx))) (fun j hj => by
      simp only [fold]
      by_cases c1 : j = i
      · subst c1
        rw [up_same, up_same]
        exact g4.go (fun x hx => by rcases hx with hx | hx; exact .inl hx; exact .inr ⟨by omega, by omega⟩) (fun x hx => put_ne (by rcases hx with hx | hx; have := hA x hx; omega; omega))
      · rw [up_ne c1, up_ne c1]
        exact (hd j (by omega)).go (fun x hx => by rcases hx with hx | hx; exact .inl hx; exact .inr ⟨hx.1, by omega⟩) keep)
    exact ⟨q', h', nx', r1, fr.trans r2 (fun x _ hx => hx), r3, r4, r5⟩

theorem cut_at {h : AHeap} {b o k : Nat} {cs : List AV} (hb : h b = some ⟨cs, 1, true⟩) (hl : o + 64 ≤ cs.length) (hk : k < 64) : ∃ c, cutR h (some (b, o)) 64 1 (some (.int .i64 (k : Int))) none none = some (some (b, o + k * 1), 64 - k, c) := by
  refine ⟨true, ?_⟩
  unfold cutR boundsD
  simp only [Option.bind_some, hb]
  rw [if_pos (by simp; omega), bound_none, Option.bind_some, bound_some (by omega)]
  simp

theorem cle_at {h : AHeap} {b o n : Nat} {cs : List AV} (hb : h b = some ⟨cs, 1, true⟩) (hn : n ≠ 0) (hl : o + n * 1 ≤ cs.length) (z : List AV) : cleD h (some (b, o)) n 1 z = some ([(b, some ⟨splice cs o (madeA z (n * 1)), 1, true⟩)], [b]) := by
  unfold cleD
  rw [if_neg hn]
  simp only [Option.bind_some, hb]
  rw [if_pos (by simp; omega)]

theorem cs_one {A : Nat → Prop} {now n0 F : Nat} {va : Option (Nat × Nat)} {vc : Bool} {e : Nat} {Y : YldF} (hA : ∀ x, A x → x < n0 ∧ x ≠ F) (hFn : F < n0) (he : e ≤ 100000)
    {l f : Nat} (l3 : l ≤ 3) (hf : 10 ≤ f) (kw : ∀ l', l = l' + 1 → CS A now n0 F va vc e Y f l') : CS A now n0 F va vc e Y (f + 1) l := by
  intro p t m base h nx kd hn0 hbase hF hm
  have h6 : 6 ^ (l + 1) = 6 * 6 ^ l := by rw [Nat.pow_succ]; omega
  have h6p := Nat.pow_pos (n := l) (show 0 < 6 by omega)
  rw [F30_eq]
  have kd0 := kd
  rcases kd with ⟨rfl, rfl⟩ | ⟨id, bi, k, ds, b, q, rfl, rfl, hb, hv, hk⟩
  · rw [if_pos (by simp), ct_nil]
    exact ⟨none, h, _, rfl, ⟨by omega, fun _ _ _ => rfl⟩, hF, Kd.nil _ _ _⟩
  have hbA := hA b hb
  rw [if_neg (by simp)]
  have lz : ct now e l base (.nd id bi k ds) m = if e ≤ base then (.nil, m) else if base + room l ≤ e then (.nd id bi k ds, m) else ct now e l base (.nd id bi k ds) m := by
    split
    · rename_i c; cases l <;> (simp only [ct]; rw [if_pos c])
    · split
      · rename_i c1 c2; cases l <;> (simp only [ct]; rw [if_neg c1, if_pos c2])
      · rfl
  by_cases c1 : e ≤ base
  · rw [if_pos (decide_eq_true (by omega)), lz, if_pos c1]
    exact ⟨none, h, _, rfl, ⟨by omega, fun _ _ _ => rfl⟩, hF, Kd.nil _ _ _⟩
  rw [if_neg (by rw [decide_eq_true_eq]; omega)]
  simp only [mst_]
  rw [Nat.zero_add, ld_at (show h b = some ⟨cellsN id bi l q ds, 1, true⟩ from hv) (v := .int .i64 (l : Int)) rfl]
  simp only [mst_]
  rw [room_spec (by omega) Y (by omega)]
  simp only [mst_]
  rw [show wrapA .i64 ((base : Int) + (room l : Int)) = ((base + room l : Nat) : Int) by rw [wA (by omega) (by omega)]; push_cast; rfl]
  by_cases c2 : base + room l ≤ e
  · rw [if_pos (decide_eq_true (by omega)), lz, if_neg c1, if_pos c2]
    exact ⟨_, h, _, rfl, ⟨by omega, fun _ _ _ => rfl⟩, hF, kd0.go (fun _ => .inl) (fun _ _ => rfl)⟩
  rw [if_neg (by rw [decide_eq_true_eq]; omega), F30_J1_eq]
  simp only [mst_]
  rw [Nat.zero_add, ld_at (show h b = some ⟨cellsN id bi l q ds, 1, true⟩ from hv) (v := .int .i64 (l : Int)) rfl]
  simp only [mst_]
  obtain ⟨h1, n1, g1, g2, g3, g4, g5⟩ := fresh_spec (f := f) (by omega) Y (nx := nx + 19 + 5 + 8) (lv := l) (id := id) (bi := bi) (q := q) (ds := ds) hF (by omega) (by omega) (.inr ⟨b, rfl, by omega, hv⟩)
  rw [g1]
  simp only [mst_]
  have g5' : h1 (nx + 19 + 5 + 8 + 3) = some ⟨cellsN (m + 1) now l q ds, 1, true⟩ := g5
  rw [Nat.zero_add, ld_at g5' (v := .int .i64 (l : Int)) rfl]
  simp only [mst_]
  have fr1 : Frm (fun i => i = F) h nx h1 n1 := ⟨by omega, fun i hi hd => g2.2 i (by omega) hd⟩
  generalize hnb : nx + 19 + 5 + 8 + 3 = nb at *
  cases l with
  | zero =>
    rw [if_pos (by decide)]
    have hr0 := room_0
    obtain ⟨cc, hc⟩ := cut_at (k := e - base) (o := 7) g5' (by rw [cellsN_len]; omega) (by omega)
    rw [show wrapA .i64 ((e : Int) - (base : Int)) = ((e - base : Nat) : Int) by rw [wA (by omega) (by omega)]; omega, show 0 + 7 = 7 from rfl, hc]
    simp only [mst_]
    rw [Nat.mul_one, cle_at g5' (by omega) (by rw [cellsN_len]; omega), splice_dat _ _ _ _ _ (by omega)]
    simp only [mst_]
    refine ⟨_, _, _, rfl, ⟨by omega, fun x hx hd => ?_⟩, ?_, ?_⟩
    · simp only [puts_cons, puts_nil]; rw [put_ne (by omega)]; exact fr1.2 x hx hd
    · simp only [ct]; rw [if_neg c1, if_neg c2]; unfold FrB; simp only [puts_cons, puts_nil]; rw [put_ne (by omega)]; exact g4
    · simp only [ct]; rw [if_neg c1, if_neg c2]
      refine .inr ⟨_, _, _, _, nb, q, rfl, rfl, .inr ⟨by omega, by omega⟩, ?_, fun i hi => hk i hi⟩
      simp only [puts_cons, puts_nil]; rw [put_same]
      have : cutD e base ds = fun i => if i < e - base then ds i else 0 := funext fun i => by
        unfold cutD
        by_cases c : base + i < e
        · rw [if_pos c, if_pos (by omega)]
        · rw [if_neg c, if_neg (by omega)]
      rw [this]; rfl
  | succ l =>
    rw [if_neg (by rw [beq_iff_eq]; omega)]
    rw [show 0 + 3 = 3 from rfl, ldr_at g5' (by rw [cellsN_len]; omega), cellsN_kids]
    obtain ⟨q', h', nx', r1, r2, r3, r4, r5⟩ := c_loop (by omega) (kw l rfl) hA hFn (by omega) (g := f) (base := base) (N := n1) (q := q) (k := k) (ds := ds) (m := m + 1) (b := nb) (id := m + 1) (by omega) (by omega) (by omega) hbase 4 f 0 q h1 (n1 + 10) (by omega) (by omega) (by omega) g5 g4
      (fun j _ hj => (hk j hj).go (fun _ z => z) (fun x hx => fr1.2 x (by have := (hA x hx).1; omega) (hA x hx).2)) (fun j hj => by omega)
    rw [show ((0 : Nat) : Int) = 0 from rfl] at r1
    rw [r1]
    refine ⟨_, h', nx', rfl, ⟨by have := r2.1; omega, fun x hx hd => ?_⟩, ?_, ?_⟩
    · exact (r2.2 x (by omega) (fun e => by rcases e with e | e; exact hd e; omega)).trans (fr1.2 x hx hd)
    · simp only [ct]; rw [if_neg c1, if_neg c2]; exact r4
    · simp only [ct]; rw [if_neg c1, if_neg c2]
      exact .inr ⟨_, _, _, _, nb, q', rfl, rfl, .inr ⟨by omega, by have := r2.1; omega⟩, r3, fun i hi => (r5 i hi).go (fun x hx => by rcases hx with hx | hx; exact .inl hx; exact .inr ⟨by omega, hx.2⟩) (fun _ _ => rfl)⟩

theorem cs_all {A : Nat → Prop} {now n0 F : Nat} {va : Option (Nat × Nat)} {vc : Bool} {e : Nat} {Y : YldF} (hA : ∀ x, A x → x < n0 ∧ x ≠ F) (hFn : F < n0) (he : e ≤ 100000) :
    ∀ (l f : Nat), l ≤ 3 → 11 + l ≤ f → CS A now n0 F va vc e Y f l := by
  intro l
  induction l with
  | zero =>
    intro f l3 hf
    obtain ⟨f, rfl⟩ : ∃ m, f = m + 1 := ⟨f - 1, by omega⟩
    exact cs_one hA hFn he l3 (by omega) (fun l' e => by omega)
  | succ l ih =>
    intro f l3 hf
    obtain ⟨f, rfl⟩ : ∃ m, f = m + 1 := ⟨f - 1, by omega⟩
    exact cs_one hA hFn he l3 (by omega) (fun l' e => (show l = l' by omega) ▸ ih f (by omega) (by omega))

end Go.Proofs.Ytogmdfbamgjjfaa.T
