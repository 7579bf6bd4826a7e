/- Trees: the walk of write, its loop over kids. -/
import Derived.Test.YtogmdfbamgjjfaaH2
set_option linter.unusedVariables false
set_option linter.unusedSimpArgs false
namespace Go.Proofs.Ytogmdfbamgjjfaa.T
open Go Go.RowKit Go.Proofs

/-- A root that may stand on fresh nodes, one above the other, in blocks of [n0, B); the rest is old and of A. -/
def ChO (O : Nat → Tr → Prop) (A : Nat → Prop) (now n0 : Nat) : Nat → AHeap → Nat → Option (Nat × Nat) → Tr → Prop
  | 0, h, _, p, t => Kd A 0 h p t
  | n + 1, h, B, p, t => (Kd A (n + 1) h p t ∧ O (n + 1) t) ∨ ∃ id k ds b q, t = .nd id now k ds ∧ p = some (b, 0) ∧ n0 ≤ b ∧ b < B ∧ h b = some (blkN id now n q ds) ∧ ChO O A now n0 n h b (q 0) (k 0) ∧ ∀ j, 1 ≤ j → j < 4 → q j = none ∧ k j = .nil
/-- All of the rest is of births before now. -/
abbrev Ch (A : Nat → Prop) (now n0 : Nat) : Nat → AHeap → Nat → Option (Nat × Nat) → Tr → Prop := ChO (Old now) A now n0
theorem ChO.of {O : Nat → Tr → Prop} {A : Nat → Prop} {now n0 n B : Nat} {h : AHeap} {p : Option (Nat × Nat)} {t : Tr} (k : Kd A n h p t) (o : O n t) : ChO O A now n0 n h B p t := by
  cases n with
  | zero => exact k
  | succ n => exact .inl ⟨k, o⟩
theorem ChO.kd {O : Nat → Tr → Prop} {A : Nat → Prop} {now n0 : Nat} {h : AHeap} : ∀ {n B : Nat} {p : Option (Nat × Nat)} {t : Tr}, ChO O A now n0 n h B p t → Kd (fun x => A x ∨ n0 ≤ x ∧ x < B) n h p t
  | 0, _, _, _, w => w
  | n + 1, B, _, _, w => by
    rcases w with w | ⟨id, k, ds, b, q, e1, e2, e3, e4, e5, e6, e7⟩
    · exact w.1.go (fun _ => .inl) (fun _ _ => rfl)
    · refine .inr ⟨id, now, k, ds, b, q, e1, e2, .inr ⟨e3, e4⟩, e5, fun i hi => ?_⟩
      cases i with
      | zero => exact e6.kd.go (fun x hx => by rcases hx with hx | hx; exact .inl hx; exact .inr ⟨hx.1, by omega⟩) (fun _ _ => rfl)
      | succ i => obtain ⟨a, b⟩ := e7 (i + 1) (by omega) hi; rw [a, b]; exact Kd.nil _ _ _
theorem ChO.go {O : Nat → Tr → Prop} {A : Nat → Prop} {now n0 : Nat} {h h' : AHeap} : ∀ {n B : Nat} {p : Option (Nat × Nat)} {t : Tr}, (∀ b, A b ∨ n0 ≤ b ∧ b < B → h' b = h b) → ChO O A now n0 n h B p t → ChO O A now n0 n h' B p t
  | 0, _, _, _, _, w => w
  | n + 1, B, _, _, f, w => by
    rcases w with w | ⟨id, k, ds, b, q, e1, e2, e3, e4, e5, e6, e7⟩
    · exact .inl ⟨w.1.go (fun _ q => q) (fun b hb => f b (.inl hb)), w.2⟩
    · exact .inr ⟨id, k, ds, b, q, e1, e2, e3, e4, (f b (.inr ⟨e3, e4⟩)).trans e5, e6.go (fun x hx => f x (by rcases hx with hx | hx; exact .inl hx; exact .inr ⟨hx.1, by omega⟩)), e7⟩

/-- What write does, at level l. -/
def WS (A : Nat → Prop) (now n0 F : Nat) (va : Option (Nat × Nat)) (vc : Bool) (off : Nat) (bs : List Int) (a : Option (Nat × Nat)) (c : Bool) (Y : YldF) (f l : Nat) : Prop :=
  ∀ (B : Nat) (p : Option (Nat × Nat)) (t : Tr) (m base : Nat) (h : AHeap) (nx : Nat), Ch A now n0 (l + 1) h B p t → n0 ≤ B → B ≤ nx → base + room l ≤ 8192 → FrB h F va now vc m → m + 6 ^ (l + 1) ≤ 1000000 → Sl h n0 a bs.length 1 (ints .u8 bs) →
    ∃ p' h' nx', callP Try.prog keepT f Y 24 [.ptr (some (F, 0)), .ptr p, .int .i64 (l : Int), .int .i64 (base : Int), .int .i64 (off : Int), .slice a bs.length c] h nx = some (.ptr p', h', nx') ∧ Frm (fun i => i = F ∨ n0 ≤ i ∧ i < B) h nx h' nx' ∧ FrB h' F va now vc (wr now off bs l base t m).2 ∧
      Kd (fun x => A x ∨ n0 ≤ x ∧ x < B ∨ nx ≤ x ∧ x < nx') (l + 1) h' p' (wr now off bs l base t m).1

theorem w_step {A : Nat → Prop} {now n0 F : Nat} {va : Option (Nat × Nat)} {vc : Bool} {off : Nat} {bs : List Int} {a : Option (Nat × Nat)} {c : Bool} {Y : YldF} {f l : Nat} (hf : 1 ≤ f) (ws : WS A now n0 F va vc off bs a c Y f l) (hA : ∀ x, A x → x < n0 ∧ x ≠ F) (hFn : F < n0) (l2 : l ≤ 2)
    {i : Nat} (hi : i < 4) {g lf b id base bi m : Nat} {q qi : Nat → Option (Nat × Nat)} {k : Nat → Tr} {ds : Nat → Int} {h : AHeap} {nx : Nat} (hv : h b = some (blkN id now (l + 1) qi ds)) (n0b : n0 ≤ b) (bnx : b < nx) (hch : Ch A now n0 (l + 1) h bi (q i) (k i)) (nbi : n0 ≤ bi) (bib : bi ≤ b) (hF : FrB h F va now vc m) (hm : m + 6 ^ (l + 1) ≤ 1000000) (hbase : base + room (l + 1) ≤ 8192)
    (sl : Sl h n0 a bs.length 1 (ints .u8 bs)) :
    ∃ p' h2 nx2, F24_L4 (callP Try.prog keepT f) Y g (lf + 1) (some (F, 0)) (some (b, 0)) ((l + 1 : Nat) : Int) (base : Int) (off : Int) a bs.length c [.ptr (q 0), .ptr (q 1), .ptr (q 2), .ptr (q 3)] (i : Int) h nx =
        F24_L4 (callP Try.prog keepT f) Y g lf (some (F, 0)) (some (b, 0)) ((l + 1 : Nat) : Int) (base : Int) (off : Int) a bs.length c [.ptr (q 0), .ptr (q 1), .ptr (q 2), .ptr (q 3)] ((i + 1 : Nat) : Int) h2 nx2 ∧
      Frm (fun x => x = F ∨ x = b ∨ n0 ≤ x ∧ x < bi) h nx h2 nx2 ∧ h2 b = some (blkN id now (l + 1) (up qi i p') ds) ∧ FrB h2 F va now vc (wr now off bs l (base + i * room l) (k i) m).2 ∧
      Kd (fun x => A x ∨ n0 ≤ x ∧ x < bi ∨ nx ≤ x ∧ x < nx2) (l + 1) h2 p' (wr now off bs l (base + i * room l) (k i) m).1 := by
  have hr := room_succ l
  have hrl := room3_le (l := l) (by omega)
  have hir : i * room l + room l ≤ 4 * room l := by
    have : (i + 1) * room l ≤ 4 * room l := Nat.mul_le_mul_right _ (by omega)
    rw [Nat.add_mul, Nat.one_mul] at this; exact this
  have hii : (i : Int) * (room l : Int) = ((i * room l : Nat) : Int) := by push_cast; rfl
  rw [F24_L4_eq, if_pos (decide_eq_true (by omega)), if_pos ⟨by omega, by omega⟩, Int.toNat_natCast, Nat.mul_one, kid_at q hi]
  simp only [mst_]
  rw [show wrapA .i64 (((l + 1 : Nat) : Int) - 1) = (l : Int) by rw [wA (by omega) (by omega)]; omega]
  rw [room_spec hf Y (by omega)]
  simp only [mst_]
  rw [hii, wA (x := ((i * room l : Nat) : Int)) (by omega) (by omega), show wrapA .i64 ((base : Int) + ((i * room l : Nat) : Int)) = ((base + i * room l : Nat) : Int) by rw [wA (by omega) (by omega)]; push_cast; rfl]
  obtain ⟨p', h1, n1, g1, g2, g3, g4⟩ := ws bi (q i) (k i) m (base + i * room l) h (nx + 25 + 5) hch nbi (by omega) (by omega) hF hm sl
  rw [g1]
  simp only [mst_]
  have l1 := g2.1
  have hv1 : h1 b = some ⟨cellsN id now (l + 1) qi ds, 1, true⟩ := (g2.2 b (by omega) (by omega)).trans hv
  rw [if_pos ⟨by omega, by omega⟩, Nat.zero_add, st_to hv1 rfl (by rw [cellsN_len]; omega) (cellsN_setk id now (l + 1) qi ds hi p'), wsucc (by omega)]
  refine ⟨p', _, _, rfl, ⟨by omega, fun x hx hd => ?_⟩, put_same _ _ _, ?_, ?_⟩
  · rw [put_ne (fun e => hd (.inr (.inl e)))]
    exact g2.2 x (by omega) (fun e => hd (by rcases e with e | e; exact .inl e; exact .inr (.inr e)))
  · unfold FrB; rw [put_ne (by omega)]; exact g3
  · refine g4.go (fun x hx => ?_) (fun x hx => put_ne ?_)
    · rcases hx with hx | hx | hx
      · exact .inl hx
      · exact .inr (.inl hx)
      · exact .inr (.inr ⟨by omega, by omega⟩)
    · rcases hx with hx | hx | hx
      · have := hA x hx; omega
      · omega
      · omega

theorem w_loop {A : Nat → Prop} {now n0 F : Nat} {va : Option (Nat × Nat)} {vc : Bool} {off : Nat} {bs : List Int} {a : Option (Nat × Nat)} {c : Bool} {Y : YldF} {f l : Nat} (hf : 1 ≤ f) (ws : WS A now n0 F va vc off bs a c Y f l) (hA : ∀ x, A x → x < n0 ∧ x ≠ F) (hFn : F < n0) (l2 : l ≤ 2) (av : Av (fun i => i = F) a bs.length)
    {g b id base b0 m N : Nat} {q : Nat → Option (Nat × Nat)} {k : Nat → Tr} {ds : Nat → Int} (n0b : n0 ≤ b) (nb0 : n0 ≤ b0) (b0b : b0 ≤ b) (bN : b < N) (hm : m + 4 * 6 ^ (l + 1) ≤ 1000000) (hbase : base + room (l + 1) ≤ 8192) (d : Nat) :
    ∀ (lf i : Nat) (qi : Nat → Option (Nat × Nat)) (h : AHeap) (nx : Nat), 1 ≤ i → i + d = 4 → d < lf → N ≤ nx → h b = some (blkN id now (l + 1) qi ds) → FrB h F va now vc (fold (fun i t m => wr now off bs l (base + i * room l) t m) k m i).2 → Sl h n0 a bs.length 1 (ints .u8 bs) →
      (∀ j, i ≤ j → j < 4 → Kd A (l + 1) h (q j) (k j) ∧ Old now (l + 1) (k j)) → (∀ j, j < i → Kd (fun x => A x ∨ n0 ≤ x ∧ x < b0 ∨ N ≤ x ∧ x < nx) (l + 1) h (qi j) ((fold (fun i t m => wr now off bs l (base + i * room l) t m) k m i).1 j)) →
      ∃ q' h' nx', F24_L4 (callP Try.prog keepT f) Y g lf (some (F, 0)) (some (b, 0)) ((l + 1 : Nat) : Int) (base : Int) (off : Int) a bs.length c [.ptr (q 0), .ptr (q 1), .ptr (q 2), .ptr (q 3)] (i : Int) h nx = some (.ptr (some (b, 0)), h', nx') ∧
        Frm (fun x => x = F ∨ x = b) h nx h' nx' ∧ h' b = some (blkN id now (l + 1) q' ds) ∧ FrB h' F va now vc (fold (fun i t m => wr now off bs l (base + i * room l) t m) k m 4).2 ∧
        ∀ j, j < 4 → Kd (fun x => A x ∨ n0 ≤ x ∧ x < b0 ∨ N ≤ x ∧ x < nx') (l + 1) h' (q' j) ((fold (fun i t m => wr now off bs l (base + i * room l) t m) k m 4).1 j) := by
  induction d with
  | zero =>
    intro lf i qi h nx i1 e hl hN hv hF sl hk hd
    obtain ⟨lf, rfl⟩ : ∃ m, lf = m + 1 := ⟨lf - 1, by omega⟩
    obtain rfl : i = 4 := by omega
    rw [F24_L4_eq, if_neg (by decide)]
    exact ⟨qi, _, _, rfl, ⟨by omega, fun _ _ _ => rfl⟩, hv, hF, fun j hj => (hd j hj).go (fun x hx => by rcases hx with hx | hx | hx; exact .inl hx; exact .inr (.inl hx); exact .inr (.inr ⟨hx.1, by omega⟩)) (fun _ _ => rfl)⟩
  | succ d ih =>
    intro lf i qi h nx i1 e hl hN hv hF sl hk hd
    obtain ⟨lf, rfl⟩ : ∃ m, lf = m + 1 := ⟨lf - 1, by omega⟩
    have hfl := (fold_le (g := fun i t m => wr now off bs l (base + i * room l) t m) (c := 6 ^ (l + 1)) (fun i t m => wr_le now off bs l _ t m) k m i).2
    have hi6 : i * 6 ^ (l + 1) + 6 ^ (l + 1) ≤ 4 * 6 ^ (l + 1) := by
      have : (i + 1) * 6 ^ (l + 1) ≤ 4 * 6 ^ (l + 1) := Nat.mul_le_mul_right _ (by omega)
      rw [Nat.add_mul, Nat.one_mul] at this; exact this
    obtain ⟨ki, oi⟩ := hk i (Nat.le_refl _) (by omega)
    obtain ⟨p', h2, n2, g1, g2, g3, g4, g5⟩ := w_step hf ws hA hFn l2 (i := i) (by omega) (g := g) (lf := lf) (nx := nx) hv n0b (by omega) (ChO.of (B := n0) ki oi) (Nat.le_refl _) n0b hF (by omega) hbase sl
    rw [g1]
    have l2' := g2.1
    have fr : Frm (fun x => x = F ∨ x = b) h nx h2 n2 := g2.more (fun x _ hx => by rcases hx with hx | hx | hx; exact .inl hx; exact .inr hx; omega)
    have keep : ∀ x, A x ∨ n0 ≤ x ∧ x < b0 ∨ N ≤ x ∧ x < nx → h2 x = h x := fun x hx => fr.2 x (by rcases hx with hx | hx | hx; have := hA x hx; omega; omega; omega) (by
      rcases hx with hx | hx | hx
      · have := hA x hx; omega
      · omega
      · omega)
    obtain ⟨q', h', nx', r1, r2, r3, r4, r5⟩ := ih lf (i + 1) (up qi i p') h2 n2 (by omega) (by omega) (by omega) (by omega) g3 g4 (sl.fr (D := fun x => x = F) av ⟨Nat.le_refl _, fun x hx hd => fr.2 x (by omega) (by omega)⟩) (fun j j1 j2 => ⟨(hk j (by omega) j2).1.go (fun _ z => z) (fun x hx => keep x (.inl hx)), (hk j (by omega) j2).2⟩) (fun j hj => by
      simp only [fold]
      by_cases c1 : j = i
      · subst c1
        rw [up_same, up_same]
        exact g5.go (fun x hx => by rcases hx with hx | hx | hx; exact .inl hx; omega; exact .inr (.inr ⟨by omega, hx.2⟩)) (fun _ _ => rfl)
      · rw [up_ne c1, up_ne c1]
        exact (hd j (by omega)).go (fun x hx => by rcases hx with hx | hx | hx; exact .inl hx; exact .inr (.inl hx); exact .inr (.inr ⟨hx.1, by omega⟩)) keep)
    refine ⟨q', h', nx', r1, fr.trans r2 (fun x _ hx => hx), r3, r4, r5⟩

end Go.Proofs.Ytogmdfbamgjjfaa.T
