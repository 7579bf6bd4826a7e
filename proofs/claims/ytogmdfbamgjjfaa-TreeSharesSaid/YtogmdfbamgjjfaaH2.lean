/- Trees: what a write makes; the walk of write. -/
import Derived.Test.YtogmdfbamgjjfaaH1
set_option linter.unusedVariables false
set_option linter.unusedSimpArgs false
namespace Go.Proofs.Ytogmdfbamgjjfaa.T
open Go Go.RowKit Go.Proofs

def fold (g : Nat → Tr → Nat → Tr × Nat) (k : Nat → Tr) (m : Nat) : Nat → (Nat → Tr) × Nat
  | 0 => (k, m)
  | i + 1 => (up (fold g k m i).1 i (g i (k i) (fold g k m i).2).1, (g i (k i) (fold g k m i).2).2)
def frs (now : Nat) (t : Tr) (m : Nat) : Nat × Nat := match t with
  | .nil => (m + 1, m + 1)
  | .nd id b _ _ => if b < now then (m + 1, m + 1) else (id, m)
def patch (off : Nat) (bs : List Int) (base : Nat) (ds : Nat → Int) : Nat → Int := fun i => if off ≤ base + i ∧ base + i < off + bs.length then bs.getD (base + i - off) 0 else ds i
/-- A write below a node of level l. -/
def wr (now off : Nat) (bs : List Int) : Nat → Nat → Tr → Nat → Tr × Nat
  | 0, base, t, m => if base + room 0 ≤ off ∨ off + bs.length ≤ base then (t, m) else (.nd (frs now t m).1 now t.kids (patch off bs base t.dat), (frs now t m).2)
  | l + 1, base, t, m => if base + room (l + 1) ≤ off ∨ off + bs.length ≤ base then (t, m) else
      (.nd (frs now t m).1 now (fold (fun i t m => wr now off bs l (base + i * room l) t m) t.kids (frs now t m).2 4).1 t.dat, (fold (fun i t m => wr now off bs l (base + i * room l) t m) t.kids (frs now t m).2 4).2)

theorem frs_le (now : Nat) (t : Tr) (m : Nat) : m ≤ (frs now t m).2 ∧ (frs now t m).2 ≤ m + 1 := by
  unfold frs; split
  · exact ⟨by simp, by simp⟩
  · split <;> simp
theorem fold_le {g : Nat → Tr → Nat → Tr × Nat} {c : Nat} (hg : ∀ i t m, m ≤ (g i t m).2 ∧ (g i t m).2 ≤ m + c) (k : Nat → Tr) (m : Nat) : ∀ n, m ≤ (fold g k m n).2 ∧ (fold g k m n).2 ≤ m + n * c
  | 0 => by simp [fold]
  | n + 1 => by
    have a := fold_le hg k m n
    have b := hg n (k n) (fold g k m n).2
    simp only [fold]
    rw [Nat.add_mul, Nat.one_mul]; omega
theorem wr_le (now off : Nat) (bs : List Int) : ∀ (l base : Nat) (t : Tr) (m : Nat), m ≤ (wr now off bs l base t m).2 ∧ (wr now off bs l base t m).2 ≤ m + 6 ^ (l + 1)
  | 0, base, t, m => by
    have := frs_le now t m
    unfold wr; split <;> simp only <;> omega
  | l + 1, base, t, m => by
    have a := frs_le now t m
    have b := fold_le (g := fun i t m => wr now off bs l (base + i * room l) t m) (c := 6 ^ (l + 1)) (fun i t m => wr_le now off bs l _ t m) t.kids (frs now t m).2 4
    have := Nat.pow_pos (n := l + 1) (show 0 < 6 by omega)
    have := Nat.pow_succ 6 (l + 1)
    unfold wr; split <;> simp only <;> omega

theorem leaf_loop {f : Nat} {Y : YldF} {g b id now base off : Nat} {q : Nat → Option (Nat × Nat)} {bs : List Int} {a : Option (Nat × Nat)} {c : Bool} {n0 : Nat} (hn : bs.length ≤ 10000) (hb : base ≤ 100000) (ho : off ≤ 100000) (ds : Nat → Int) (d : Nat) :
    ∀ (lf i : Nat) (ds' : Nat → Int) (h : AHeap) (nx : Nat), i + d = 64 → d < lf → (∀ j, ds' j = if j < i then patch off bs base ds j else ds j) → Sl h n0 a bs.length 1 (ints .u8 bs) → Av (fun i => i = b) a bs.length → h b = some (blkN id now 0 q ds') →
      ∃ ds2 h' nx', F24_L3 (callP Try.prog keepT f) Y g lf (some (b, 0)) (base : Int) (off : Int) a bs.length c (i : Int) h nx = some (.ptr (some (b, 0)), h', nx') ∧ nx ≤ nx' ∧ (∀ j, j ≠ b → h' j = h j) ∧ h' b = some (blkN id now 0 q ds2) ∧ ∀ j, j < 64 → ds2 j = patch off bs base ds j := by
  induction d with
  | zero =>
    intro lf i ds' h nx e hl hd sl av hv
    obtain ⟨lf, rfl⟩ : ∃ m, lf = m + 1 := ⟨lf - 1, by omega⟩
    obtain rfl : i = 64 := by omega
    rw [F24_L3_eq, if_neg (by decide)]
    exact ⟨ds', _, _, rfl, by omega, fun _ _ => rfl, hv, fun j hj => by rw [hd, if_pos hj]⟩
  | succ d ih =>
    intro lf i ds' h nx e hl hd sl av hv
    obtain ⟨lf, rfl⟩ : ∃ m, lf = m + 1 := ⟨lf - 1, by omega⟩
    have hk : wrapA .i64 (wrapA .i64 ((base : Int) + (i : Int)) - (off : Int)) = (base : Int) + (i : Int) - (off : Int) := by rw [wA (x := (base : Int) + (i : Int)) (by omega) (by omega), wA (by omega) (by omega)]
    rw [F24_L3_eq, if_pos (decide_eq_true (by omega)), hk, wsucc (by omega)]
    have same : patch off bs base ds i = ds i → ∀ j, ds' j = if j < i + 1 then patch off bs base ds j else ds j := fun q j => by
      rw [hd]
      by_cases c1 : j < i
      · rw [if_pos c1, if_pos (by omega)]
      · by_cases c2 : j = i
        · subst c2; rw [if_neg c1, if_pos (by omega), q]
        · rw [if_neg c1, if_neg (by omega)]
    by_cases c1 : off ≤ base + i
    · rw [if_pos (decide_eq_true (by omega))]
      by_cases c2 : base + i < off + bs.length
      · have hlt : base + i - off < bs.length := by omega
        rw [if_pos (decide_eq_true (by omega)), sl.read0 (v := .int .u8 (bs.getD (base + i - off) 0)) (by omega) (by omega) (by omega) (by
          rw [show ((base : Int) + (i : Int) - (off : Int)).toNat * 1 = base + i - off by omega]; simp [ints, hlt])]
        simp only [mst_]
        rw [if_pos ⟨by omega, by omega⟩, Int.toNat_natCast, Nat.mul_one, Nat.zero_add]
        rw [st_to (show h b = some ⟨cellsN id now 0 q ds', 1, true⟩ from hv) rfl (by rw [cellsN_len]; omega) (cellsN_setd id now 0 q ds' (by omega) _)]
        obtain ⟨ds2, h', nx', r1, r2, r3, r4, r5⟩ := ih lf (i + 1) (up ds' i (bs.getD (base + i - off) 0)) (h.put b (some ⟨cellsN id now 0 q (up ds' i (bs.getD (base + i - off) 0)), 1, true⟩)) (nx + 29) (by omega) (by omega) (fun j => by
          by_cases c3 : j = i
          · subst c3; rw [up_same, if_pos (by omega)]; unfold patch; rw [if_pos ⟨c1, c2⟩]
          · rw [up_ne c3, hd]
            by_cases c4 : j < i
            · rw [if_pos c4, if_pos (by omega)]
            · rw [if_neg c4, if_neg (by omega)]) (sl.fr (D := fun i => i = b) av ⟨Nat.le_refl _, fun j _ hj => put_ne hj⟩) av (put_same _ _ _)
        exact ⟨ds2, h', nx', r1, by omega, fun j hj => (r3 j hj).trans (put_ne hj), r4, r5⟩
      · rw [if_neg (by rw [decide_eq_true_eq]; omega)]
        obtain ⟨ds2, h', nx', r1, r2, r3, r4, r5⟩ := ih lf (i + 1) ds' h (nx + 19) (by omega) (by omega) (same (by unfold patch; rw [if_neg (by omega)])) sl av hv
        exact ⟨ds2, h', nx', r1, by omega, r3, r4, r5⟩
    · rw [if_neg (by rw [decide_eq_true_eq]; omega)]
      obtain ⟨ds2, h', nx', r1, r2, r3, r4, r5⟩ := ih lf (i + 1) ds' h (nx + 19) (by omega) (by omega) (same (by unfold patch; rw [if_neg (by omega)])) sl av hv
      exact ⟨ds2, h', nx', r1, by omega, r3, r4, r5⟩

end Go.Proofs.Ytogmdfbamgjjfaa.T
