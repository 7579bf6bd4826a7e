import Derived.Test.YtdfopcgfhjijgaaLR
import Derived.Test.YtdfopcgfhjijgaaEN
import Derived.Test.YtdfopcgfhjijgaaMW
set_option linter.unusedVariables false
set_option linter.unusedSimpArgs false
namespace Go.Proofs.Ytdfopcgfhjijgaa.T
open Go Go.RowKit Go.Proofs

theorem ix0 (j : Nat) : 0 + Int.toNat ((j : Nat) : Int) * 1 = j := by omega

/-! ### a matrix of one's own, by blocks -/
def irow (W : Nat) (f : Nat → Nat) : List AV := (List.range W).map fun j => .int .i64 ((f j : Nat) : Int)
theorem irow_len (W : Nat) (f : Nat → Nat) : (irow W f).length = W := by simp [irow]
theorem irow_get {W : Nat} {f : Nat → Nat} {j : Nat} (h : j < W) : (irow W f)[j]? = some (.int .i64 ((f j : Nat) : Int)) := by
  simp [irow, List.getElem?_range h]
theorem irow_congr {W : Nat} {f g : Nat → Nat} (h : ∀ j, j < W → f j = g j) : irow W f = irow W g :=
  List.map_congr_left fun j hj => by rw [h j (List.mem_range.1 hj)]
theorem irow_set {W k : Nat} {f : Nat → Nat} {v : Nat} : (irow W f).set k (.int .i64 ((v : Nat) : Int)) = irow W fun j => if j = k then v else f j := by
  apply List.ext_getElem
  · rw [List.length_set, irow_len, irow_len]
  · intro i h1 h2
    rw [List.getElem_set]
    simp only [irow, List.getElem_map, List.getElem_range]
    by_cases e : k = i
    · subst e; rw [if_pos rfl, if_pos rfl]
    · rw [if_neg e, if_neg (fun q => e q.symm)]
theorem irow_step {W k : Nat} (g f : Nat → Nat) : (irow W fun j => if j < k then g j else f j).set k (.int .i64 ((g k : Nat) : Int)) = irow W fun j => if j < k + 1 then g j else f j := by
  rw [irow_set]
  refine irow_congr fun j _ => ?_
  by_cases e : j = k
  · subst e; rw [if_pos rfl, if_pos (by omega)]
  · rw [if_neg e]
    by_cases l : j < k
    · rw [if_pos l, if_pos (by omega)]
    · rw [if_neg l, if_neg (by omega)]
theorem irow_rd {R : Type} {h : AHeap} {b W : Nat} {f : Nat → Nat} {es : Nat} {o : Bool} (hb : h b = some ⟨irow W f, es, o⟩) {j : Nat} (hj : j < W) (K : AV → Option R) :
    (if 0 ≤ (j : Int) ∧ (j : Int) < ((W : Nat) : Int) then (ldA h b (0 + Int.toNat (j : Int) * 1)).bind K else none) = K (.int .i64 ((f j : Nat) : Int)) := by
  rw [if_pos ⟨by omega, by omega⟩, ix0, ld_at hb (irow_get hj)]

def hrow (n W : Nat) (bl : Nat → Nat) (cl : Nat → Bool) : List AV := (List.range n).map fun i => .slice (some (bl i, 0)) W (cl i)
structure GM (h : AHeap) (lo nm n W hd : Nat) (bl : Nat → Nat) (cl : Nat → Bool) (M : Fm) : Prop where
  hdr : h hd = some ⟨hrow n W bl cl, 1, true⟩
  row : ∀ i, i < n → h (bl i) = some ⟨irow W (M i), 1, true⟩
  inj : ∀ i j, i < n → j < n → bl i = bl j → i = j
  ne : ∀ i, i < n → bl i ≠ hd
  lohd : lo ≤ hd
  hdm : hd < nm
  lobl : ∀ i, i < n → lo ≤ bl i
  blm : ∀ i, i < n → bl i < nm

theorem GM.rd {R : Type} {h : AHeap} {lo nm n W hd : Nat} {bl : Nat → Nat} {cl : Nat → Bool} {M : Fm} (g : GM h lo nm n W hd bl cl M) {i : Nat} (hi : i < n) (K : AV → Option R) :
    (if 0 ≤ (i : Int) ∧ (i : Int) < ((n : Nat) : Int) then (ldA h hd (0 + Int.toNat (i : Int) * 1)).bind K else none) = K (.slice (some (bl i, 0)) W (cl i)) := by
  rw [if_pos ⟨by omega, by omega⟩, ix0, ld_at g.hdr (v := .slice (some (bl i, 0)) W (cl i)) (by simp [hrow, List.getElem?_range hi])]
theorem GM.keep {h h' : AHeap} {lo nm n W hd : Nat} {bl : Nat → Nat} {cl : Nat → Bool} {M : Fm} (g : GM h lo nm n W hd bl cl M) (k : ∀ j, lo ≤ j → j < nm → h' j = h j) : GM h' lo nm n W hd bl cl M :=
  ⟨(k hd g.lohd g.hdm).trans g.hdr, fun i hi => (k _ (g.lobl i hi) (g.blm i hi)).trans (g.row i hi), g.inj, g.ne, g.lohd, g.hdm, g.lobl, g.blm⟩
theorem GM.congr {h : AHeap} {lo nm n W hd : Nat} {bl : Nat → Nat} {cl : Nat → Bool} {M N : Fm} (g : GM h lo nm n W hd bl cl M) (e : ∀ i j, i < n → j < W → M i j = N i j) : GM h lo nm n W hd bl cl N :=
  ⟨g.hdr, fun i hi => by rw [g.row i hi, irow_congr fun j hj => e i j hi hj], g.inj, g.ne, g.lohd, g.hdm, g.lobl, g.blm⟩
/-- One row has changed. -/
theorem GM.chg {h h' : AHeap} {lo nm n W hd : Nat} {bl : Nat → Nat} {cl : Nat → Bool} {M : Fm} (g : GM h lo nm n W hd bl cl M) {i : Nat} (hi : i < n) {f : Nat → Nat} (b : h' (bl i) = some ⟨irow W f, 1, true⟩) (k : ∀ j, lo ≤ j → j < nm → j ≠ bl i → h' j = h j) :
    GM h' lo nm n W hd bl cl fun i' => if i' = i then f else M i' := by
  refine ⟨(k hd g.lohd g.hdm fun e => g.ne i hi e.symm).trans g.hdr, fun i' hi' => ?_, g.inj, g.ne, g.lohd, g.hdm, g.lobl, g.blm⟩
  by_cases e : i' = i
  · subst e; simp only [if_pos]; exact b
  · rw [if_neg e, k _ (g.lobl i' hi') (g.blm i' hi') fun q => e (g.inj i' i hi' hi q)]; exact g.row i' hi'

theorem hrow_set {n W i : Nat} {bl : Nat → Nat} {cl : Nat → Bool} {b : Nat} {c : Bool} : (hrow n W bl cl).set i (.slice (some (b, 0)) W c) = hrow n W (fun k => if k = i then b else bl k) (fun k => if k = i then c else cl k) := by
  apply List.ext_getElem
  · simp [hrow]
  · intro j h1 h2
    rw [List.getElem_set]
    simp only [hrow, List.getElem_map, List.getElem_range]
    by_cases e : i = j
    · subst e; rw [if_pos rfl, if_pos rfl, if_pos rfl]
    · rw [if_neg e, if_neg (fun q => e q.symm), if_neg (fun q => e q.symm)]
theorem hrow_len (n W : Nat) (bl : Nat → Nat) (cl : Nat → Bool) : (hrow n W bl cl).length = n := by simp [hrow]

/-! ### the inverse of an element -/
theorem inv_spec {f : Nat} (hf : 300 ≤ f) (a : Nat) (ha : a < 256) (h0 : a ≠ 0) (h : AHeap) (nx : Nat) : ∃ h' nx', callP Try.prog keepT f Y0 21 [.int .i64 (a : Int)] h nx = some (.tuple [.int .i64 ((Gf.gi a : Nat) : Int), .int .i64 0], h', nx') ∧ Ext h nx h' nx' := by
  obtain ⟨f, rfl⟩ : ∃ m, f = m + 2 := ⟨f - 2, by omega⟩
  obtain ⟨n1, l1, e1⟩ := bad2_spec (f := f) (by omega) 1 a (by omega) ha (h := h.put (nx + 8 + 4) (some ⟨[.int .i64 ((1 : Nat) : Int), .int .i64 (a : Int)], 1, true⟩)) (put_same _ _ _) (nx + 8 + 7)
  obtain ⟨f', rfl⟩ : ∃ m, f = m + 1 := ⟨f - 1, by omega⟩
  obtain ⟨n2, l2, e2⟩ := power_loop (k0 := f') (by omega) f' (h.put (nx + 8 + 4) (some ⟨[.int .i64 ((1 : Nat) : Int), .int .i64 (a : Int)], 1, true⟩)) 16 f' a 254 1 (n1 + 9 + 2) (by omega) ha (by omega) (by omega) (by omega)
  rw [Gf.one_gm (Gf.gp_lt ha _)] at e2
  obtain ⟨n3, l3, e3⟩ := times_spec (f := f' + 1) (by omega) 1 (Gf.gp a 254) (by omega) (Gf.gp_lt ha _) (h.put (nx + 8 + 4) (some ⟨[.int .i64 ((1 : Nat) : Int), .int .i64 (a : Int)], 1, true⟩)) n2
  rw [Gf.one_gm (Gf.gp_lt ha _)] at e3
  rw [show ((1 : Nat) : Int) = 1 from rfl] at e1 e2 e3
  rw [show ((254 : Nat) : Int) = 254 from rfl] at e2
  rw [F21_eq, F20_eq]
  dsimp only
  rw [e1]
  simp only [bind_some', asI_int, asB_bool, asStr_str, asP_ptr, asSl_sl, asAgg_1, asAgg_2, asAgg_3, asAgg_4, asTup_0, asTup_2, asTup_3, asTup_4, if_true', if_false', if_not_true', if_not_false', getD_0, getD_1, getD_2, getD_3]
  rw [if_neg (by simp; omega), F41_eq, e2]
  simp only [bind_some', asI_int, asB_bool, asStr_str, asP_ptr, asSl_sl, asAgg_1, asAgg_2, asAgg_3, asAgg_4, asTup_0, asTup_2, asTup_3, asTup_4, if_true', if_false', if_not_true', if_not_false', getD_0, getD_1, getD_2, getD_3]
  rw [e3]
  simp only [bind_some', asI_int, asB_bool, asStr_str, asP_ptr, asSl_sl, asAgg_1, asAgg_2, asAgg_3, asAgg_4, asTup_0, asTup_2, asTup_3, asTup_4, if_true', if_false', if_not_true', if_not_false', getD_0, getD_1, getD_2, getD_3]
  exact ⟨_, _, rfl, by omega, fun q hq => put_ne (by omega)⟩

/-! ### the steps of Gauss and Jordan -/
theorem scale_loop {k0 : Nat} (hk0 : 14 ≤ k0) (lf n0 : Nat) (X : Option (Nat × Nat)) (n : Nat) (xc : Bool) (C r : Int) (x6 : Option (Nat × Nat)) {b W v : Nat} (bc : Bool) (hW : W ≤ 1000) (hv : v < 256) {old : Nat → Nat} (ho : ∀ j, old j < 256) (m : Nat) :
    ∀ (f k : Nat) (h : AHeap) (nx : Nat), k + m = W → m < f → b < nx → h b = some ⟨irow W (fun j => if j < k then Gf.gm (old j) v else old j), 1, true⟩ →
    ∃ h' nx', F52_L4 (callP Try.prog keepT k0) Y0 lf n0 f X n xc C r x6 (some (b, 0)) W bc (v : Int) ((W : Nat) : Int) (k : Int) h nx = F52_L5 (callP Try.prog keepT k0) Y0 lf n0 lf X n xc C r x6 (some (b, 0)) W bc X n xc ((n : Nat) : Int) 0 h' nx' ∧ nx ≤ nx' ∧ h' b = some ⟨irow W (fun j => Gf.gm (old j) v), 1, true⟩ ∧ ∀ q, q < nx → q ≠ b → h' q = h q := by
  induction m with
  | zero =>
    intro f k h nx e hf hb hr
    obtain ⟨f, rfl⟩ : ∃ m, f = m + 1 := ⟨f - 1, by omega⟩
    obtain rfl : k = W := by omega
    rw [F52_L4_eq, if_neg (by simp)]
    exact ⟨h, nx + 4, rfl, by omega, by rw [hr, irow_congr fun j hj => if_pos hj], fun _ _ _ => rfl⟩
  | succ m ih =>
    intro f k h nx e hf hb hr
    obtain ⟨f, rfl⟩ : ∃ m, f = m + 1 := ⟨f - 1, by omega⟩
    have hk : k < W := by omega
    obtain ⟨h1, n1, e1, x1⟩ := mtimes_spec (f := k0) hk0 (old k) v (ho k) hv h (nx + 13)
    have y1 := x1.1
    have hr1 := (x1.2 b (by omega)).trans hr
    rw [F52_L4_eq, if_pos (by simpa using hk)]
    simp only [bind_some', asI_int, asB_bool, asStr_str, asP_ptr, asSl_sl, asAgg_1, asAgg_2, asAgg_3, asAgg_4, asTup_0, asTup_2, asTup_3, asTup_4, if_true', if_false', if_not_true', if_not_false', getD_0, getD_1, getD_2, getD_3]
    rw [irow_rd hr hk, if_neg (by omega)]
    simp only [bind_some', asI_int, asB_bool, asStr_str, asP_ptr, asSl_sl, asAgg_1, asAgg_2, asAgg_3, asAgg_4, asTup_0, asTup_2, asTup_3, asTup_4, if_true', if_false', if_not_true', if_not_false', getD_0, getD_1, getD_2, getD_3]
    rw [e1]
    simp only [bind_some', asI_int, asB_bool, asStr_str, asP_ptr, asSl_sl, asAgg_1, asAgg_2, asAgg_3, asAgg_4, asTup_0, asTup_2, asTup_3, asTup_4, if_true', if_false', if_not_true', if_not_false', getD_0, getD_1, getD_2, getD_3]
    rw [if_pos ⟨by omega, by omega⟩, ix0, st_to hr1 rfl (by rw [irow_len]; exact hk) (irow_step (fun j => Gf.gm (old j) v) old), wsucc (by omega)]
    obtain ⟨h', nx', e', l', b', k'⟩ := ih f (k + 1) _ (n1 + 2) (by omega) (by omega) (by omega) (put_same h1 b _)
    exact ⟨h', nx', e', by omega, b', fun q hq hne => by rw [k' q (by omega) hne, put_ne hne, x1.2 q (by omega)]⟩

theorem mix7_loop {k0 : Nat} (hk0 : 14 ≤ k0) (lf n0 n1 : Nat) (X Y : Option (Nat × Nat)) (n yn : Nat) (xc yc : Bool) (C r : Int) (x6 : Option (Nat × Nat)) {b ri W f0 i : Nat} (bc rc : Bool) (hW : W ≤ 1000) (hi : i ≤ 1000) (hne : ri ≠ b) (hf0 : f0 < 256) {old T : Nat → Nat} (ho : ∀ j, old j < 256) (hT : ∀ j, T j < 256) (m : Nat) :
    ∀ (f k : Nat) (h : AHeap) (nx : Nat), k + m = W → m < f → b < nx → ri < nx → h b = some ⟨irow W T, 1, true⟩ → h ri = some ⟨irow W (fun j => if j < k then old j ^^^ Gf.gm f0 (T j) else old j), 1, true⟩ →
    ∃ h' nx', F52_L7 (callP Try.prog keepT k0) Y0 lf n0 n1 f X n xc C r x6 (some (b, 0)) W bc (some (ri, 0)) W rc (f0 : Int) Y yn yc ((n : Nat) : Int) (i : Int) ((W : Nat) : Int) (k : Int) h nx = F52_L5 (callP Try.prog keepT k0) Y0 lf n0 n1 X n xc C r x6 (some (b, 0)) W bc Y yn yc ((n : Nat) : Int) ((i + 1 : Nat) : Int) h' nx' ∧ nx ≤ nx' ∧ h' ri = some ⟨irow W (fun j => old j ^^^ Gf.gm f0 (T j)), 1, true⟩ ∧ ∀ q, q < nx → q ≠ ri → h' q = h q := by
  induction m with
  | zero =>
    intro f k h nx e hf hb hri hbT hr
    obtain ⟨f, rfl⟩ : ∃ m, f = m + 1 := ⟨f - 1, by omega⟩
    obtain rfl : k = W := by omega
    rw [F52_L7_eq, if_neg (by simp), wsucc (by omega)]
    exact ⟨h, nx + 3, rfl, by omega, by rw [hr, irow_congr fun j hj => if_pos hj], fun _ _ _ => rfl⟩
  | succ m ih =>
    intro f k h nx e hf hb hri hbT hr
    obtain ⟨f, rfl⟩ : ∃ m, f = m + 1 := ⟨f - 1, by omega⟩
    have hk : k < W := by omega
    obtain ⟨h1, n1', e1, x1⟩ := mtimes_spec (f := k0) hk0 f0 (T k) hf0 (hT k) h (nx + 16)
    have y1 := x1.1
    have hr1 := (x1.2 ri (by omega)).trans hr
    have hgl := Gf.gm_lt (b := T k) hf0
    have hok := ho k
    rw [F52_L7_eq, if_pos (by simpa using hk)]
    simp only [bind_some', asI_int, asB_bool, asStr_str, asP_ptr, asSl_sl, asAgg_1, asAgg_2, asAgg_3, asAgg_4, asTup_0, asTup_2, asTup_3, asTup_4, if_true', if_false', if_not_true', if_not_false', getD_0, getD_1, getD_2, getD_3]
    rw [irow_rd hr hk, if_neg (by omega)]
    simp only [bind_some', asI_int, asB_bool, asStr_str, asP_ptr, asSl_sl, asAgg_1, asAgg_2, asAgg_3, asAgg_4, asTup_0, asTup_2, asTup_3, asTup_4, if_true', if_false', if_not_true', if_not_false', getD_0, getD_1, getD_2, getD_3]
    rw [irow_rd hbT hk]
    simp only [bind_some', asI_int, asB_bool, asStr_str, asP_ptr, asSl_sl, asAgg_1, asAgg_2, asAgg_3, asAgg_4, asTup_0, asTup_2, asTup_3, asTup_4, if_true', if_false', if_not_true', if_not_false', getD_0, getD_1, getD_2, getD_3]
    rw [e1]
    simp only [bind_some', asI_int, asB_bool, asStr_str, asP_ptr, asSl_sl, asAgg_1, asAgg_2, asAgg_3, asAgg_4, asTup_0, asTup_2, asTup_3, asTup_4, if_true', if_false', if_not_true', if_not_false', getD_0, getD_1, getD_2, getD_3]
    rw [if_pos ⟨by omega, by omega⟩, ix0, g_xor _ _ (by omega) (by omega), st_to hr1 rfl (by rw [irow_len]; exact hk) (irow_step (fun j => old j ^^^ Gf.gm f0 (T j)) old), ifKept_pos (by exact ⟨fun x hx => by simp at hx; subst hx; exact x1.2 _ (by omega), trivial⟩), wsucc (by omega)]
    obtain ⟨h', nx', e', l', b', k'⟩ := ih f (k + 1) _ (n1' + 2) (by omega) (by omega) (by omega) (by omega) ((put_ne (fun e => hne e.symm)).trans ((x1.2 b (by omega)).trans hbT)) (put_same h1 ri _)
    exact ⟨h', nx', e', by omega, b', fun q hq hne' => by rw [k' q (by omega) hne', put_ne hne', x1.2 q (by omega)]⟩

theorem elim_loop {k0 : Nat} (hk0 : 14 ≤ k0) (lf n0 : Nat) (hlf : 2000 ≤ lf) {lo nm n W hd : Nat} (hn : n ≤ 1000) (hW : W ≤ 1000) (xc : Bool) (C : Int) {r c cid : Nat} (hr : r < n) (hc : c < W) (hcid : nm ≤ cid) {bl : Nat → Nat} {cl : Nat → Bool} {M : Fm} (hM : F8 M) (m : Nat) :
    ∀ (f i : Nat) (h : AHeap) (nx : Nat), i + m = n → m < f → nm ≤ nx → cid < nx → h cid = some ⟨[.int .i64 (c : Int)], 1, true⟩ → GM h lo nm n W hd bl cl (fun i' j => if i' < i ∧ i' ≠ r then M i' j ^^^ Gf.gm (M i' c) (M r j) else M i' j) →
    ∃ h' nx', F52_L5 (callP Try.prog keepT k0) Y0 lf n0 f (some (hd, 0)) n xc C (r : Int) (some (cid, 0)) (some (bl r, 0)) W (cl r) (some (hd, 0)) n xc ((n : Nat) : Int) (i : Int) h nx = F52_J3 (callP Try.prog keepT k0) Y0 lf n0 (some (hd, 0)) n xc C ((r + 1 : Nat) : Int) (some (cid, 0)) h' nx' ∧ nx ≤ nx' ∧ h' cid = some ⟨[.int .i64 (c : Int)], 1, true⟩ ∧ GM h' lo nm n W hd bl cl (fun i' j => if i' ≠ r then M i' j ^^^ Gf.gm (M i' c) (M r j) else M i' j) ∧ ∀ q, q < nx → (q < lo ∨ nm ≤ q) → h' q = h q := by
  induction m with
  | zero =>
    intro f i h nx e hf hnm hcx hb g
    obtain ⟨f, rfl⟩ : ∃ m, f = m + 1 := ⟨f - 1, by omega⟩
    obtain rfl : i = n := by omega
    rw [F52_L5_eq, if_neg (by simp), wsucc (by omega)]
    refine ⟨h, nx + 4, rfl, by omega, hb, g.congr fun i' j hi' _ => ?_, fun _ _ _ => rfl⟩
    by_cases e : i' = r
    · rw [if_neg (by omega), if_neg (by omega)]
    · rw [if_pos ⟨hi', e⟩, if_pos e]
  | succ m ih =>
    intro f i h nx e hf hnm hcx hb g
    obtain ⟨f, rfl⟩ : ∃ m, f = m + 1 := ⟨f - 1, by omega⟩
    have hi : i < n := by omega
    have rowi : h (bl i) = some ⟨irow W (M i), 1, true⟩ := by
      rw [g.row i hi]; congr 2; exact irow_congr fun j _ => if_neg (by omega)
    have rowr : h (bl r) = some ⟨irow W (M r), 1, true⟩ := by
      rw [g.row r hr]; congr 2; exact irow_congr fun j _ => if_neg (by omega)
    rw [F52_L5_eq, if_pos (by simpa using hi)]
    simp only [bind_some', asI_int, asB_bool, asStr_str, asP_ptr, asSl_sl, asAgg_1, asAgg_2, asAgg_3, asAgg_4, asTup_0, asTup_2, asTup_3, asTup_4, if_true', if_false', if_not_true', if_not_false', getD_0, getD_1, getD_2, getD_3]
    rw [g.rd hi]
    simp only [bind_some', asI_int, asB_bool, asStr_str, asP_ptr, asSl_sl, asAgg_1, asAgg_2, asAgg_3, asAgg_4, asTup_0, asTup_2, asTup_3, asTup_4, if_true', if_false', if_not_true', if_not_false', getD_0, getD_1, getD_2, getD_3]
    by_cases hir : i = r
    · subst hir
      rw [if_pos (by simp), wsucc (by omega)]
      obtain ⟨h', nx', e', l', c', g', k'⟩ := ih f (i + 1) h (nx + 18) (by omega) (by omega) (by omega) (by omega) hb (g.congr fun i' j hi' _ => by
        by_cases q : i' = i
        · rw [if_neg (by omega), if_neg (by omega)]
        · by_cases l : i' < i
          · rw [if_pos ⟨l, q⟩, if_pos ⟨by omega, q⟩]
          · rw [if_neg (by omega), if_neg (by omega)])
      exact ⟨h', nx', e', by omega, c', g', fun q hq hq' => k' q (by omega) hq'⟩
    · rw [if_neg (by simp; omega), ld_at hb rfl]
      simp only [bind_some', asI_int, asB_bool, asStr_str, asP_ptr, asSl_sl, asAgg_1, asAgg_2, asAgg_3, asAgg_4, asTup_0, asTup_2, asTup_3, asTup_4, if_true', if_false', if_not_true', if_not_false', getD_0, getD_1, getD_2, getD_3]
      rw [irow_rd rowi hc]
      simp only [bind_some', asI_int, asB_bool, asStr_str, asP_ptr, asSl_sl, asAgg_1, asAgg_2, asAgg_3, asAgg_4, asTup_0, asTup_2, asTup_3, asTup_4, if_true', if_false', if_not_true', if_not_false', getD_0, getD_1, getD_2, getD_3]
      by_cases hz : M i c = 0
      · rw [hz, if_pos (by simp), wsucc (by omega)]
        obtain ⟨h', nx', e', l', c', g', k'⟩ := ih f (i + 1) h (nx + 18) (by omega) (by omega) (by omega) (by omega) hb (g.congr fun i' j hi' _ => by
          by_cases q : i' = i
          · subst q; rw [if_neg (by omega), if_pos ⟨by omega, hir⟩, hz, Gf.zero_gm, Nat.xor_zero]
          · by_cases l : i' < i
            · by_cases s : i' = r
              · rw [if_neg (by omega), if_neg (by omega)]
              · rw [if_pos ⟨l, s⟩, if_pos ⟨by omega, s⟩]
            · rw [if_neg (by omega), if_neg (by omega)])
        exact ⟨h', nx', e', by omega, c', g', fun q hq hq' => k' q (by omega) hq'⟩
      · rw [if_neg (by simp; omega), F52_J6_eq]
        simp only [bind_some', asI_int, asB_bool, asStr_str, asP_ptr, asSl_sl, asAgg_1, asAgg_2, asAgg_3, asAgg_4, asTup_0, asTup_2, asTup_3, asTup_4, if_true', if_false', if_not_true', if_not_false', getD_0, getD_1, getD_2, getD_3]
        rw [ld_at hb rfl]
        simp only [bind_some', asI_int, asB_bool, asStr_str, asP_ptr, asSl_sl, asAgg_1, asAgg_2, asAgg_3, asAgg_4, asTup_0, asTup_2, asTup_3, asTup_4, if_true', if_false', if_not_true', if_not_false', getD_0, getD_1, getD_2, getD_3]
        rw [irow_rd rowi hc]
        simp only [bind_some', asI_int, asB_bool, asStr_str, asP_ptr, asSl_sl, asAgg_1, asAgg_2, asAgg_3, asAgg_4, asTup_0, asTup_2, asTup_3, asTup_4, if_true', if_false', if_not_true', if_not_false', getD_0, getD_1, getD_2, getD_3]
        have hbi := g.blm i hi
        have hbr := g.blm r hr
        have hlo := g.lobl i hi
        obtain ⟨h1, n1, e1, l1, b1, k1⟩ := mix7_loop hk0 lf n0 f (some (hd, 0)) (some (hd, 0)) n n xc xc C (r : Int) (some (cid, 0)) (b := bl r) (ri := bl i) (W := W) (f0 := M i c) (i := i) (cl r) (cl i) hW (by omega) (fun q => hir (g.inj i r hi hr q)) (hM i c) (old := M i) (T := M r) (hM i) (hM r) W lf 0 h (nx + 16 + 8) (by omega) (by omega) (by omega) (by omega) rowr (by
          rw [rowi]; congr 2)
        rw [show ((0 : Nat) : Int) = 0 from rfl] at e1
        rw [e1]
        obtain ⟨h', nx', e', l', c', g', k'⟩ := ih f (i + 1) h1 n1 (by omega) (by omega) (by omega) (by omega) ((k1 cid (by omega) (by omega)).trans hb) ((g.chg hi b1 fun j h2 h3 h4 => k1 j (by omega) h4).congr fun i' j hi' _ => by
          by_cases q : i' = i
          · subst q; simp only [if_pos]; rw [if_pos ⟨by omega, hir⟩]
          · rw [if_neg q]
            by_cases l : i' < i
            · by_cases s : i' = r
              · rw [if_neg (by omega), if_neg (by omega)]
              · rw [if_pos ⟨l, s⟩, if_pos ⟨by omega, s⟩]
            · rw [if_neg (by omega), if_neg (by omega)])
        exact ⟨h', nx', e', by omega, c', g', fun q hq hq' => by rw [k' q (by omega) hq', k1 q (by omega) (by omega)]⟩

end Go.Proofs.Ytdfopcgfhjijgaa.T
