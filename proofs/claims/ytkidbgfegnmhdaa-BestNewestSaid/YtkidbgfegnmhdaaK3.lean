/- Labels: Encode. -/
import Derived.Test.YtkidbgfegnmhdaaK2
set_option linter.unusedVariables false
set_option linter.unusedSimpArgs false
namespace Go.Proofs.Ytkidbgfegnmhdaa.T
open Go Go.RowKit Go.Proofs

/-- A sector that is being written: these bytes, then bytes 0. -/
def bufC (vs : List Int) : List AV := ints .u8 (vs ++ List.replicate (128 - vs.length) 0)
theorem bufC_len (vs : List Int) (h : vs.length ≤ 128) : (bufC vs).length = 128 := by simp [bufC, ints]; omega
theorem bufC_put {vs : List Int} (h : vs.length < 128) (v : Int) : splice (bufC vs) (0 + vs.length * 1) [.int .u8 v] = bufC (vs ++ [v]) := by
  obtain ⟨k, hk⟩ : ∃ k, 128 - vs.length = k + 1 := ⟨127 - vs.length, by omega⟩
  have h2 : 128 - (vs ++ [v]).length = k := by simp; omega
  unfold bufC splice
  rw [hk, h2, Nat.zero_add, Nat.mul_one]
  simp only [ints, List.map_append, List.length_singleton, List.replicate_succ, List.map_cons]
  rw [show vs.length = (vs.map (AV.int .u8)).length by simp, List.take_left', List.drop_append, List.drop_of_length_le (by simp)]
  · simp
  · rfl
theorem buf_app {h : AHeap} {b : Nat} {vs : List Int} {v : Int} (hb : h b = some ⟨bufC vs, 1, true⟩) (hl : vs.length < 128) (id : Nat) (rd : List Nat) :
    appD h (some (b, 0)) vs.length (some 128) 1 1 id (1, [.int .u8 v], rd) = some ⟨some (b, 0), vs.length + 1, some 128, [(b, some ⟨bufC (vs ++ [v]), 1, true⟩)], b :: rd⟩ := by
  unfold appD
  rw [if_neg (by simp), if_pos (growOk_of (by simp only; omega) (by omega))]
  simp only [hb, Option.bind_some]
  rw [if_pos (by rw [Bool.and_eq_true]; exact ⟨rfl, decide_eq_true (by rw [bufC_len _ (by omega)]; omega)⟩), if_neg (by simp [capLt]; omega), if_pos trivial, if_pos (by simp [capIn, bufC_len _ (show vs.length ≤ 128 by omega)]; omega), bufC_put hl]

theorem write_loop {f : Nat} {Y : YldF} {g b k : Nat} (hk : k ≤ 8) (d : Nat) : ∀ (lf i : Nat) (vs : List Int) (x : Int) (h : AHeap) (nx : Nat), i + d = k → d < lf → vs.length + d ≤ 128 → b < nx → h b = some ⟨bufC vs, 1, true⟩ →
    ∃ h' nx', F15_L1 (callP Try.prog keepT f) Y g lf (some (b, 0)) vs.length (some 128) x (k : Int) (i : Int) h nx = some (.slice (some (b, 0)) (vs ++ leL d x).length (some 128), h', nx') ∧ Frm (fun j => j = b) h nx h' nx' ∧ h' b = some ⟨bufC (vs ++ leL d x), 1, true⟩ := by
  induction d with
  | zero =>
    intro lf i vs x h nx e hl hv lb hb
    obtain ⟨lf, rfl⟩ : ∃ m, lf = m + 1 := ⟨lf - 1, by omega⟩
    rw [F15_L1_eq, if_neg (by rw [decide_eq_true_eq]; omega)]
    simp only [leL, List.append_nil]
    exact ⟨_, _, rfl, ⟨by omega, fun _ _ _ => rfl⟩, hb⟩
  | succ d ih =>
    intro lf i vs x h nx e hl hv lb hb
    obtain ⟨lf, rfl⟩ : ∃ m, lf = m + 1 := ⟨lf - 1, by omega⟩
    have hx : wrapA .u8 x = x % 256 := wrapA_def _ _
    have hp : Int.fdiv x ((2:Int) ^ min (Int.toNat 8) (IntKind.bits .i64)) = x / 256 := by
      have : min (Int.toNat 8) (IntKind.bits .i64) = 8 := by show min 8 64 = 8; rfl
      rw [this, Int.fdiv_eq_ediv_of_nonneg _ (by decide)]; rfl
    rw [F15_L1_eq, if_pos (decide_eq_true (by omega)), hx, hp]
    dsimp only
    have hb1 : (h.put (nx + 4) (some ⟨[.int .u8 (x % 256)], 1, true⟩)) b = some ⟨bufC vs, 1, true⟩ := (put_ne (by omega)).trans hb
    rw [src_lit1, some_bind, buf_app hb1 (by omega), some_bind, wsucc (i := i) (by omega)]
    have hlen : vs.length + 1 = (vs ++ [x % 256]).length := by simp
    simp only [hlen]
    obtain ⟨h', nx', r1, r2, r3⟩ := ih lf (i + 1) (vs ++ [x % 256]) (x / 256) (((h.put (nx + 4) (some ⟨[.int .u8 (x % 256)], 1, true⟩))).puts [(b, some ⟨bufC (vs ++ [x % 256]), 1, true⟩)]) (nx + 12) (by omega) (by omega) (by simp; omega) (by omega) (by simp only [puts_cons, puts_nil]; exact put_same _ _ _)
    have ha : vs ++ leL (d + 1) x = vs ++ [x % 256] ++ leL d (x / 256) := by simp [leL]
    rw [ha]
    refine ⟨h', nx', r1, ⟨by have := r2.1; omega, fun j hj hd => ?_⟩, r3⟩
    rw [r2.2 j (by omega) hd]
    simp only [puts_cons, puts_nil]
    rw [put_ne hd, put_ne (by omega)]
theorem write_spec {f : Nat} (hf : 12 ≤ f) (Y : YldF) {b k : Nat} (hk : k ≤ 8) (vs : List Int) (x : Int) {h : AHeap} {nx : Nat} (hv : vs.length + k ≤ 128) (lb : b < nx) (hb : h b = some ⟨bufC vs, 1, true⟩) :
    ∃ h' nx', callP Try.prog keepT f Y 15 [.slice (some (b, 0)) vs.length (some 128), .int .i64 x, .int .i64 (k : Int)] h nx = some (.slice (some (b, 0)) (vs ++ leL k x).length (some 128), h', nx') ∧ Frm (fun j => j = b) h nx h' nx' ∧ h' b = some ⟨bufC (vs ++ leL k x), 1, true⟩ := by
  obtain ⟨f, rfl⟩ : ∃ m, f = m + 1 := ⟨f - 1, by omega⟩
  rw [F15_eq]
  obtain ⟨h', nx', r1, r2, r3⟩ := write_loop (f := f) (Y := Y) (g := f) (b := b) hk k f 0 vs x h (nx + 3) (by omega) (by omega) hv (by omega) hb
  exact ⟨h', nx', r1, ⟨by have := r2.1; omega, fun j hj hd => r2.2 j (by omega) hd⟩, r3⟩

/-- Pointers to so many cells in a row. -/
def ptrsL (b o n : Nat) : List AV := (List.range n).map fun i => .ptr (some (b, o + i))
theorem ptrs_at {b o n i : Nat} (h : i < n) : (ptrsL b o n)[i]? = some (.ptr (some (b, o + i))) := by simp [ptrsL, h]
theorem small_spec {f : Nat} (hf : 1 ≤ f) (Y : YldF) (b : Nat) (h : AHeap) (nx : Nat) : ∃ h', callP Try.prog keepT f Y 14 [.ptr (some (b, 0))] h nx = some (.agg (ptrsL b 0 9), h', nx + 34) ∧ Ext h nx h' (nx + 34) := by
  obtain ⟨f, rfl⟩ : ∃ m, f = m + 1 := ⟨f - 1, by omega⟩
  rw [F14_eq]
  simp only [mst_]
  rw [st_all (put_same h nx _) (by simp) (by simp) (by simp [allOne, AV.one]), ldr_all (put_same _ _ _) (by simp)]
  exact ⟨_, rfl, ⟨by omega, fun i hi => by rw [put_ne (by omega), put_ne (by omega)]⟩⟩
theorem sums_spec {f : Nat} (hf : 1 ≤ f) (Y : YldF) (b o : Nat) (h : AHeap) (nx : Nat) : ∃ h', callP Try.prog keepT f Y 16 [.ptr (some (b, o))] h nx = some (.agg (ptrsL b o 4), h', nx + 15) ∧ Ext h nx h' (nx + 15) := by
  obtain ⟨f, rfl⟩ : ∃ m, f = m + 1 := ⟨f - 1, by omega⟩
  rw [F16_eq]
  simp only [mst_]
  rw [st_all (put_same h nx _) (by simp) (by simp) (by simp [allOne, AV.one]), ldr_all (put_same _ _ _) (by simp)]
  exact ⟨_, rfl, ⟨by omega, fun i hi => by rw [put_ne (by omega), put_ne (by omega)]⟩⟩

/-- The numbers of a list, each in k bytes. -/
def les (k : Nat) (l : List Int) : List Int := (l.map (leL k)).flatten
theorem les_len (k : Nat) : ∀ l : List Int, (les k l).length = l.length * k
  | [] => by simp [les]
  | x :: l => by simp only [les, List.map_cons, List.flatten_cons, List.length_append, leL_len, List.length_cons, Nat.add_mul, Nat.one_mul]; have := les_len k l; unfold les at this; omega
theorem les_bytes (k : Nat) : ∀ l : List Int, Bytes (les k l)
  | [] => fun y hy => by simp [les] at hy
  | x :: l => fun y hy => by
    simp only [les, List.map_cons, List.flatten_cons, List.mem_append] at hy
    rcases hy with hy | hy
    · exact leL_bytes k x y hy
    · exact les_bytes k l y hy
theorem les_app (k : Nat) (a b : List Int) : les k (a ++ b) = les k a ++ les k b := by simp [les]
theorem les_take {k : Nat} {l : List Int} {i : Nat} (h : i < l.length) : les k (l.take (i + 1)) = les k (l.take i) ++ leL k l[i] := by
  rw [List.take_add_one, List.getElem?_eq_getElem h, Option.toList_some, les_app]; simp [les]

theorem enc_l1 {f : Nat} (hf : 12 ≤ f) {Y : YldF} {g b lb : Nat} (hne : lb ≠ b) {fs : List Int} (hfs : fs.length = 13) {P : Option Res → Prop} {h0 : AHeap} {n0 : Nat} (hbn : b < n0) (hln : lb < n0) (hl : h0 lb = some ⟨ints .i64 fs, 13, true⟩)
    (next : ∀ h nx, Frm (fun j => j = b) h0 n0 h nx → h b = some ⟨bufC (les 4 (fs.take 9)), 1, true⟩ → P ((some (lb, 0) : Option (Nat × Nat)).bind fun p8 => (callP Try.prog keepT f Y 16 [(.ptr (some (p8.1, ((p8.2 + 5) + 4))))] h (nx + 5)).bind fun r9 => (asRow r9.1).bind fun d10 => F8_L2 (callP Try.prog keepT f) Y g g (some (b, 0)) (les 4 (fs.take 9)).length (some 128) d10 0 r9.2.1 r9.2.2)) (d : Nat) :
    ∀ (lf i : Nat) (h : AHeap) (nx : Nat), i + d = 9 → d < lf → Frm (fun j => j = b) h0 n0 h nx → h b = some ⟨bufC (les 4 (fs.take i)), 1, true⟩ → P (F8_L1 (callP Try.prog keepT f) Y g lf (some (lb, 0)) (some (b, 0)) (les 4 (fs.take i)).length (some 128) (ptrsL lb 0 9) (i : Int) h nx) := by
  induction d with
  | zero =>
    intro lf i h nx e hlf fr hb
    obtain ⟨lf, rfl⟩ : ∃ m, lf = m + 1 := ⟨lf - 1, by omega⟩
    obtain rfl : i = 9 := by omega
    rw [F8_L1_eq, if_neg (by decide)]
    exact next h nx fr hb
  | succ d ih =>
    intro lf i h nx e hlf fr hb
    obtain ⟨lf, rfl⟩ : ∃ m, lf = m + 1 := ⟨lf - 1, by omega⟩
    have l0 := fr.1
    have hlb : h lb = some ⟨ints .i64 fs, 13, true⟩ := (fr.2 lb hln hne).trans hl
    have hcell : (ints .i64 fs)[0 + i]? = some (.int .i64 fs[i]) := by rw [Nat.zero_add]; simp [ints, show i < fs.length by omega]
    have hlen : (les 4 (fs.take i)).length ≤ 36 := by rw [les_len, List.length_take]; omega
    rw [F8_L1_eq, if_pos (decide_eq_true (by omega)), if_pos ⟨by omega, by omega⟩, Int.toNat_natCast, Nat.mul_one, ptrs_at (by omega)]
    simp only [mst_]
    rw [ld_at hlb hcell]
    simp only [mst_]
    obtain ⟨h1, n1, r1, r2, r3⟩ := write_spec hf Y (b := b) (k := 4) (by omega) (les 4 (fs.take i)) fs[i] (h := h) (nx := nx + 9) (by omega) (by omega) hb
    have r1' : callP Try.prog keepT f Y 15 [.slice (some (b, 0)) (les 4 (fs.take i)).length (some 128), .int .i64 fs[i], .int .i64 4] h (nx + 9) = _ := r1
    rw [r1']
    simp only [mst_]
    rw [← les_take (show i < fs.length by omega)] at r3 ⊢
    rw [wsucc (i := i) (by omega)]
    exact ih lf (i + 1) h1 (n1 + 2) (by omega) (by omega) ⟨by have := r2.1; omega, fun j hj hd => by rw [r2.2 j (by omega) hd, fr.2 j hj hd]⟩ r3

theorem enc_l2 {f : Nat} (hf : 12 ≤ f) {Y : YldF} {g b lb o : Nat} (hne : lb ≠ b) {pre fs : List Int} (hfs : fs.length = 4) (hpre : pre.length ≤ 96) {cs : List AV} {es : Nat} {P : Option Res → Prop} {h0 : AHeap} {n0 : Nat} (hbn : b < n0) (hln : lb < n0) (hl : h0 lb = some ⟨cs, es, true⟩) (hcs : ∀ i (hi : i < fs.length), cs[o + i]? = some (.int .i64 fs[i]))
    (next : ∀ h nx lf, Frm (fun j => j = b) h0 n0 h nx → h b = some ⟨bufC (pre ++ les 8 fs), 1, true⟩ → P (F8_L2 (callP Try.prog keepT f) Y g (lf + 1) (some (b, 0)) (pre ++ les 8 fs).length (some 128) (ptrsL lb o 4) 4 h nx)) (d : Nat) :
    ∀ (lf i : Nat) (h : AHeap) (nx : Nat), i + d = 4 → d < lf → Frm (fun j => j = b) h0 n0 h nx → h b = some ⟨bufC (pre ++ les 8 (fs.take i)), 1, true⟩ → P (F8_L2 (callP Try.prog keepT f) Y g lf (some (b, 0)) (pre ++ les 8 (fs.take i)).length (some 128) (ptrsL lb o 4) (i : Int) h nx) := by
  induction d with
  | zero =>
    intro lf i h nx e hlf fr hb
    obtain ⟨lf, rfl⟩ : ∃ m, lf = m + 1 := ⟨lf - 1, by omega⟩
    obtain rfl : i = 4 := by omega
    rw [List.take_of_length_le (by omega)] at hb ⊢
    exact next h nx lf fr hb
  | succ d ih =>
    intro lf i h nx e hlf fr hb
    obtain ⟨lf, rfl⟩ : ∃ m, lf = m + 1 := ⟨lf - 1, by omega⟩
    have l0 := fr.1
    have hlb : h lb = some ⟨cs, es, true⟩ := (fr.2 lb hln hne).trans hl
    have hlen : (les 8 (fs.take i)).length ≤ 24 := by rw [les_len, List.length_take]; omega
    rw [F8_L2_eq, if_pos (decide_eq_true (by omega)), if_pos ⟨by omega, by omega⟩, Int.toNat_natCast, Nat.mul_one, ptrs_at (by omega)]
    simp only [mst_]
    rw [ld_at hlb (hcs i (by omega))]
    simp only [mst_]
    obtain ⟨h1, n1, r1, r2, r3⟩ := write_spec hf Y (b := b) (k := 8) (by omega) (pre ++ les 8 (fs.take i)) fs[i] (h := h) (nx := nx + 9) (by rw [List.length_append]; omega) (by omega) hb
    have r1' : callP Try.prog keepT f Y 15 [.slice (some (b, 0)) (pre ++ les 8 (fs.take i)).length (some 128), .int .i64 fs[i], .int .i64 8] h (nx + 9) = _ := r1
    rw [r1']
    simp only [mst_]
    rw [List.append_assoc, ← les_take (show i < fs.length by omega)] at r3 ⊢
    rw [wsucc (i := i) (by omega)]
    exact ih lf (i + 1) h1 (n1 + 2) (by omega) (by omega) ⟨by have := r2.1; omega, fun j hj hd => by rw [r2.2 j (by omega) hd, fr.2 j hj hd]⟩ r3
theorem enc_l3 {f : Nat} (hf : 12 ≤ f) {Y : YldF} {g b lb o : Nat} (hne : lb ≠ b) {pre fs : List Int} (hfs : fs.length = 4) (hpre : pre.length ≤ 96) {cs : List AV} {es : Nat} {h0 : AHeap} {n0 : Nat} (hbn : b < n0) (hln : lb < n0) (hl : h0 lb = some ⟨cs, es, true⟩) (hcs : ∀ i (hi : i < fs.length), cs[o + i]? = some (.int .i64 fs[i])) (d : Nat) :
    ∀ (lf i : Nat) (h : AHeap) (nx : Nat), i + d = 4 → d < lf → Frm (fun j => j = b) h0 n0 h nx → h b = some ⟨bufC (pre ++ les 8 (fs.take i)), 1, true⟩ →
      ∃ h' nx', F8_L3 (callP Try.prog keepT f) Y g lf (some (b, 0)) (pre ++ les 8 (fs.take i)).length (some 128) (ptrsL lb o 4) (i : Int) h nx = some (.tuple [.slice (some (b, 0)) (pre ++ les 8 fs).length (some 128), .int .i64 0], h', nx') ∧ Frm (fun j => j = b) h0 n0 h' nx' ∧ h' b = some ⟨bufC (pre ++ les 8 fs), 1, true⟩ := by
  induction d with
  | zero =>
    intro lf i h nx e hlf fr hb
    obtain ⟨lf, rfl⟩ : ∃ m, lf = m + 1 := ⟨lf - 1, by omega⟩
    obtain rfl : i = 4 := by omega
    rw [List.take_of_length_le (by omega)] at hb ⊢
    rw [F8_L3_eq, if_neg (by decide)]
    exact ⟨_, _, rfl, fr.le (by omega), hb⟩
  | succ d ih =>
    intro lf i h nx e hlf fr hb
    obtain ⟨lf, rfl⟩ : ∃ m, lf = m + 1 := ⟨lf - 1, by omega⟩
    have l0 := fr.1
    have hlb : h lb = some ⟨cs, es, true⟩ := (fr.2 lb hln hne).trans hl
    have hlen : (les 8 (fs.take i)).length ≤ 24 := by rw [les_len, List.length_take]; omega
    rw [F8_L3_eq, if_pos (decide_eq_true (by omega)), if_pos ⟨by omega, by omega⟩, Int.toNat_natCast, Nat.mul_one, ptrs_at (by omega)]
    simp only [mst_]
    rw [ld_at hlb (hcs i (by omega))]
    simp only [mst_]
    obtain ⟨h1, n1, r1, r2, r3⟩ := write_spec hf Y (b := b) (k := 8) (by omega) (pre ++ les 8 (fs.take i)) fs[i] (h := h) (nx := nx + 9) (by rw [List.length_append]; omega) (by omega) hb
    have r1' : callP Try.prog keepT f Y 15 [.slice (some (b, 0)) (pre ++ les 8 (fs.take i)).length (some 128), .int .i64 fs[i], .int .i64 8] h (nx + 9) = _ := r1
    rw [r1']
    simp only [mst_]
    rw [List.append_assoc, ← les_take (show i < fs.length by omega)] at r3 ⊢
    rw [wsucc (i := i) (by omega)]
    exact ih lf (i + 1) h1 (n1 + 2) (by omega) (by omega) ⟨by have := r2.1; omega, fun j hj hd => by rw [r2.2 j (by omega) hd, fr.2 j hj hd]⟩ r3

end Go.Proofs.Ytkidbgfegnmhdaa.T
