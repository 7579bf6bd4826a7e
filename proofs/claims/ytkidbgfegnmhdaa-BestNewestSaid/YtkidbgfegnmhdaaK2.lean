/- Labels: numbers as bytes, and back; what may be. -/
import Derived.Test.YtkidbgfegnmhdaaK1
set_option linter.unusedVariables false
set_option linter.unusedSimpArgs false
namespace Go.Proofs.Ytkidbgfegnmhdaa.T
open Go Go.RowKit Go.Proofs

/-! ### numbers as bytes, the lowest first -/
def leL : Nat → Int → List Int
  | 0, _ => []
  | k + 1, x => (x % 256) :: leL k (x / 256)
theorem leL_len : ∀ (k : Nat) (x : Int), (leL k x).length = k
  | 0, _ => rfl
  | k + 1, x => by simp [leL, leL_len k]
theorem leL_bytes : ∀ (k : Nat) (x : Int), Bytes (leL k x)
  | 0, _ => fun y hy => by cases hy
  | k + 1, x => fun y hy => by
    simp only [leL, List.mem_cons] at hy
    rcases hy with rfl | hy
    · omega
    · exact leL_bytes k _ y hy
def valL : List Int → Int
  | [] => 0
  | b :: l => b + 256 * valL l
theorem valL_pos : ∀ {l : List Int}, Bytes l → 0 ≤ valL l
  | [], _ => by simp [valL]
  | b :: l, h => by
    have h1 := h b List.mem_cons_self
    have h2 := valL_pos (l := l) (fun x hx => h x (List.mem_cons_of_mem _ hx))
    simp only [valL]; omega
def p256 : Nat → Int
  | 0 => 1
  | k + 1 => 256 * p256 k
theorem valL_lt : ∀ {l : List Int}, Bytes l → valL l < p256 l.length
  | [], _ => by simp [valL, p256]
  | b :: l, h => by
    have h1 := h b List.mem_cons_self
    have h2 := valL_lt (l := l) (fun x hx => h x (List.mem_cons_of_mem _ hx))
    simp only [valL, List.length_cons, p256]; omega
theorem valL_inj : ∀ {l m : List Int}, Bytes l → Bytes m → l.length = m.length → valL l = valL m → l = m
  | [], [], _, _, _, _ => rfl
  | [], _ :: _, _, _, h, _ => by simp at h
  | _ :: _, [], _, _, h, _ => by simp at h
  | a :: l, b :: m, ha, hb, hl, hv => by
    have h1 := ha a List.mem_cons_self
    have h2 := hb b List.mem_cons_self
    simp only [valL] at hv
    have e : a = b := by omega
    subst e
    rw [valL_inj (l := l) (m := m) (fun x hx => ha x (List.mem_cons_of_mem _ hx)) (fun x hx => hb x (List.mem_cons_of_mem _ hx)) (by simpa using hl) (by omega)]
theorem valL_le4 (x : Int) (h : 0 ≤ x ∧ x < 4294967296) : valL (leL 4 x) = x := by simp only [leL, valL]; omega
theorem valL_le8 (x : Int) : valL (leL 8 x) = x % 18446744073709551616 := by simp only [leL, valL]; omega
theorem wrap_le8 (x : Int) (h : -9223372036854775808 ≤ x ∧ x ≤ 9223372036854775807) : wrapA .i64 (valL (leL 8 x)) = x := by
  rw [valL_le8, wrapA_def]; show wrap64 _ = x; unfold wrap64; omega

theorem or8 (x y : Int) (hx : x % 256 = 0) (h0 : 0 ≤ y) (h1 : y < 256) : bits .or .i64 x y = wrap64 (x + y) := by
  have hb : ∀ n : Int, IntKind.i64.wrap n = wrap64 n := fun n => by rw [IntKind.wrap_i64]; rfl
  simp only [bits, hb]
  obtain ⟨a, ha⟩ : ∃ a : Nat, x % 18446744073709551616 = (a : Int) := ⟨(x % 18446744073709551616).toNat, by omega⟩
  obtain ⟨b, rfl⟩ := Int.eq_ofNat_of_zero_le h0
  have e1 : (BitVec.ofInt IntKind.i64.bits x).toNat = a := by
    show (BitVec.ofInt 64 x).toNat = a
    rw [BitVec.toNat_ofInt]
    show (x % ((2 ^ 64 : Nat) : Int)).toNat = a
    rw [show ((2 ^ 64 : Nat) : Int) = 18446744073709551616 from rfl, ha]; rfl
  have e2 : (BitVec.ofInt IntKind.i64.bits (b : Int)).toNat = b := by
    show (BitVec.ofInt 64 (b : Int)).toNat = b
    rw [BitVec.ofInt_natCast, BitVec.toNat_ofNat]
    exact Nat.mod_eq_of_lt (by omega)
  have hd : a % 2 ^ 8 = 0 := by show a % 256 = 0; omega
  have hq : a = 2 ^ 8 * (a / 2 ^ 8) := by
    have := Nat.div_add_mod a (2 ^ 8)
    omega
  rw [BitVec.toNat_or, e1, e2]
  have e3 : a ||| b = a + b := by
    rw [hq, ← Nat.two_pow_add_eq_or_of_lt (show b < 2 ^ 8 by show b < 256; omega) (a / 2 ^ 8)]
  rw [e3]
  unfold wrap64
  push_cast
  omega
theorem acc_step (v b : Int) (h0 : 0 ≤ b) (h1 : b < 256) : bits .or .i64 (wrapA .i64 (wrapA .i64 v * (2:Int) ^ min (Int.toNat 8) (IntKind.bits .i64))) (wrapA .i64 b) = wrapA .i64 (b + 256 * v) := by
  have hp : (2:Int) ^ min (Int.toNat 8) (IntKind.bits .i64) = 256 := by
    have : min (Int.toNat 8) (IntKind.bits .i64) = 8 := by show min 8 64 = 8; rfl
    rw [this]; rfl
  rw [hp, wA (x := b) (by omega) (by omega)]
  have hw : ∀ n, wrapA .i64 n = wrap64 n := fun n => wrapA_def _ _
  rw [hw, hw, hw]
  rw [or8 _ _ (by unfold wrap64; omega) h0 h1]
  unfold wrap64; omega

/-! ### picks, comparisons -/
def pickL (x n : Int) : Int := if Int.tmod x n < 0 then Int.tmod x n + n else Int.tmod x n
theorem pickL_in {x n : Int} (h : 0 < n) : 0 ≤ pickL x n ∧ pickL x n < n := by
  have h1 := Int.tmod_lt_of_pos x h
  have h2 : -n < Int.tmod x n := by
    have := Int.lt_tmod_of_pos x h; omega
  unfold pickL; split <;> omega
def pickK (x n : Int) : Nat := if Int.tmod x n < 0 then 11 else 9
theorem picked_spec {f : Nat} (hf : 1 ≤ f) (Y : YldF) (x n : Int) (h0 : 0 < n) (h1 : n ≤ 100000000) (h : AHeap) (nx : Nat) : callP Try.prog keepT f Y 12 [.int .i64 x, .int .i64 n] h nx = some (.int .i64 (pickL x n), h, nx + pickK x n) := by
  obtain ⟨f, rfl⟩ : ∃ m, f = m + 1 := ⟨f - 1, by omega⟩
  have hl := Int.tmod_lt_of_pos x h0
  have hg := Int.lt_tmod_of_pos x h0
  rw [F12_eq, if_neg (by omega)]
  unfold pickL pickK
  by_cases c : Int.tmod x n < 0
  · rw [if_pos (decide_eq_true c), if_pos c, if_pos c, wA (by omega) (by omega)]
  · rw [if_neg (by rw [decide_eq_true_eq]; exact c), if_neg c, if_neg c]

theorem same_loop {f : Nat} {Y : YldF} {g : Nat} {a b : Option (Nat × Nat)} {ca cb : Option Nat} {u v : List Int} {h : AHeap} {n0 : Nat} (su : Sl h n0 a u.length 1 (ints .u8 u)) (sv : Sl h n0 b v.length 1 (ints .u8 v)) (he : u.length = v.length) (hu : u.length ≤ 4000000000000000000) (d : Nat) :
    ∀ (lf k nx : Nat), k + d = u.length → d < lf → ∃ m, nx ≤ m ∧ F11_L1 (callP Try.prog keepT f) Y g lf a u.length ca b v.length cb (k : Int) h nx = some (.bool (decide (u.drop k = v.drop k)), h, m) := by
  induction d with
  | zero =>
    intro lf k nx e hl
    obtain ⟨lf, rfl⟩ : ∃ m, lf = m + 1 := ⟨lf - 1, by omega⟩
    obtain rfl : k = u.length := by omega
    rw [F11_L1_eq, if_neg (by rw [decide_eq_true_eq]; omega)]
    exact ⟨_, Nat.le_add_right _ 5, by rw [List.drop_length, he, List.drop_length]; rfl⟩
  | succ d ih =>
    intro lf k nx e hl
    obtain ⟨lf, rfl⟩ : ∃ m, lf = m + 1 := ⟨lf - 1, by omega⟩
    have hk : k < u.length := by omega
    have hk2 : k < v.length := by omega
    rw [F11_L1_eq, if_pos (decide_eq_true (by omega)), su.read0 (v := .int .u8 u[k]) (i := k) (by omega) (by omega) (by omega) (by simp [ints, hk])]
    simp only [mst_]
    rw [sv.read0 (v := .int .u8 v[k]) (i := k) (by omega) (by omega) (by omega) (by simp [ints, hk2])]
    simp only [mst_]
    rw [List.drop_eq_getElem_cons hk, List.drop_eq_getElem_cons hk2]
    by_cases c : u[k] = v[k]
    · rw [if_neg (by simp [c]), wsucc (by omega)]
      obtain ⟨m, l, q⟩ := ih lf (k + 1) (nx + 16) (by omega) (by omega)
      refine ⟨m, by omega, ?_⟩
      rw [q, c]; simp only [List.cons.injEq, true_and]
    · rw [if_pos (by simpa using c)]
      exact ⟨_, Nat.le_add_right _ 14, by simp only [List.cons.injEq, c, false_and, decide_false]⟩
theorem same_spec {f : Nat} (Y : YldF) {a b : Option (Nat × Nat)} (ca cb : Option Nat) {u v : List Int} {h : AHeap} {n0 : Nat} (su : Sl h n0 a u.length 1 (ints .u8 u)) (sv : Sl h n0 b v.length 1 (ints .u8 v)) (hu : u.length ≤ 4000000000000000000) (hf : u.length + 2 ≤ f) (nx : Nat) :
    ∃ m, nx ≤ m ∧ callP Try.prog keepT f Y 11 [.slice a u.length ca, .slice b v.length cb] h nx = some (.bool (decide (u = v)), h, m) := by
  obtain ⟨f, rfl⟩ : ∃ m, f = m + 1 := ⟨f - 1, by omega⟩
  rw [F11_eq]
  by_cases c : u.length = v.length
  · rw [if_neg (by simp [c])]
    obtain ⟨m, l, q⟩ := same_loop (f := f) (g := f) (Y := Y) (ca := ca) (cb := cb) su sv c hu u.length f 0 (nx + 7) (by omega) (by omega)
    exact ⟨m, by omega, q⟩
  · rw [if_pos (by rw [bne_iff_ne]; omega)]
    refine ⟨_, Nat.le_add_right _ 7, ?_⟩
    have : ¬ u = v := fun e => c (by rw [e])
    simp [this]

theorem equal_loop {f : Nat} {Y : YldF} {g : Nat} {a b : Option (Nat × Nat)} {ca cb : Option Nat} {u v : List Int} {h : AHeap} {n0 : Nat} (su : Sl h n0 a u.length 1 (ints .u8 u)) (sv : Sl h n0 b v.length 1 (ints .u8 v)) (he : u.length = v.length) (hu : u.length ≤ 1000) (d : Nat) :
    ∀ (lf k nx : Nat), k + d = u.length → d < lf → ∃ m, nx ≤ m ∧ F19_L1 (callP Try.prog keepT f) Y g lf a u.length ca b v.length cb ((u.length : Nat) : Int) (k : Int) h nx = some (.bool (decide (u.drop k = v.drop k)), h, m) := by
  induction d with
  | zero =>
    intro lf k nx e hl
    obtain ⟨lf, rfl⟩ : ∃ m, lf = m + 1 := ⟨lf - 1, by omega⟩
    obtain rfl : k = u.length := by omega
    rw [F19_L1_eq, if_neg (by rw [decide_eq_true_eq]; omega)]
    exact ⟨_, Nat.le_add_right _ 2, by rw [List.drop_length, he, List.drop_length]; rfl⟩
  | succ d ih =>
    intro lf k nx e hl
    obtain ⟨lf, rfl⟩ : ∃ m, lf = m + 1 := ⟨lf - 1, by omega⟩
    have hk : k < u.length := by omega
    have hk2 : k < v.length := by omega
    rw [F19_L1_eq, if_pos (decide_eq_true (by omega)), su.read0 (v := .int .u8 u[k]) (i := k) (by omega) (by omega) (by omega) (by simp [ints, hk])]
    simp only [mst_]
    rw [sv.read0 (v := .int .u8 v[k]) (i := k) (by omega) (by omega) (by omega) (by simp [ints, hk2])]
    simp only [mst_]
    rw [List.drop_eq_getElem_cons hk, List.drop_eq_getElem_cons hk2]
    by_cases c : u[k] = v[k]
    · rw [if_neg (by simp [c]), wsucc (i := k) (by omega)]
      obtain ⟨m, l, q⟩ := ih lf (k + 1) (nx + 14) (by omega) (by omega)
      refine ⟨m, by omega, ?_⟩
      rw [q, c]; simp only [List.cons.injEq, true_and]
    · rw [if_pos (by simpa using c)]
      exact ⟨_, Nat.le_add_right _ 13, by simp only [List.cons.injEq, c, false_and, decide_false]⟩
theorem equal_spec {f : Nat} (hf : 1010 ≤ f) (Y : YldF) {a b : Option (Nat × Nat)} (ca cb : Option Nat) {u v : List Int} {h : AHeap} {n0 : Nat} (su : Sl h n0 a u.length 1 (ints .u8 u)) (sv : Sl h n0 b v.length 1 (ints .u8 v)) (hu : u.length ≤ 1000) (nx : Nat) :
    ∃ m, nx ≤ m ∧ callP Try.prog keepT f Y 19 [.slice a u.length ca, .slice b v.length cb] h nx = some (.bool (decide (u = v)), h, m) := by
  obtain ⟨f, rfl⟩ : ∃ m, f = m + 1 := ⟨f - 1, by omega⟩
  rw [F19_eq]
  by_cases c : u.length = v.length
  · rw [if_neg (by simp [c])]
    obtain ⟨m, l, q⟩ := equal_loop (f := f) (g := f) (Y := Y) (ca := ca) (cb := cb) su sv c hu u.length f 0 (nx + 9) (by omega) (by omega)
    exact ⟨m, by omega, q⟩
  · rw [if_pos (by rw [bne_iff_ne]; omega)]
    refine ⟨_, Nat.le_add_right _ 7, ?_⟩
    have : ¬ u = v := fun e => c (by rw [e])
    simp [this]

/-! ### labels -/
theorem gD4 (a b c d e z : AV) (tl : List AV) : (a :: b :: c :: d :: e :: tl).getD 4 z = e := by simp
theorem gD5 (a b c d e f z : AV) (tl : List AV) : (a :: b :: c :: d :: e :: f :: tl).getD 5 z = f := by simp
theorem gD6 (a b c d e f g z : AV) (tl : List AV) : (a :: b :: c :: d :: e :: f :: g :: tl).getD 6 z = g := by simp
theorem gD7 (a b c d e f g h z : AV) (tl : List AV) : (a :: b :: c :: d :: e :: f :: g :: h :: tl).getD 7 z = h := by simp
theorem gD8 (a b c d e f g h i z : AV) (tl : List AV) : (a :: b :: c :: d :: e :: f :: g :: h :: i :: tl).getD 8 z = i := by simp
theorem gD9 (a b c d e f g h i j z : AV) (tl : List AV) : (a :: b :: c :: d :: e :: f :: g :: h :: i :: j :: tl).getD 9 z = j := by simp
theorem gD10 (a b c d e f g h i j k z : AV) (tl : List AV) : (a :: b :: c :: d :: e :: f :: g :: h :: i :: j :: k :: tl).getD 10 z = k := by simp
theorem gD11 (a b c d e f g h i j k l z : AV) (tl : List AV) : (a :: b :: c :: d :: e :: f :: g :: h :: i :: j :: k :: l :: tl).getD 11 z = l := by simp
theorem gD12 (a b c d e f g h i j k l m z : AV) (tl : List AV) : (a :: b :: c :: d :: e :: f :: g :: h :: i :: j :: k :: l :: m :: tl).getD 12 z = m := by simp
theorem agg8 (a b c d e f g h : AV) : asAgg 8 (.agg [a, b, c, d, e, f, g, h]) = some [a, b, c, d, e, f, g, h] := asAgg_mk (by simp)
theorem agg13 (a b c d e f g h i j k l m : AV) : asAgg 13 (.agg [a, b, c, d, e, f, g, h, i, j, k, l, m]) = some [a, b, c, d, e, f, g, h, i, j, k, l, m] := asAgg_mk (by simp)
theorem mstL : (∀ (a b c d e z : AV) (tl : List AV), (a :: b :: c :: d :: e :: tl).getD 4 z = e) ∧ (∀ (a b c d e f z : AV) (tl : List AV), (a :: b :: c :: d :: e :: f :: tl).getD 5 z = f) ∧ (∀ (a b c d e f g z : AV) (tl : List AV), (a :: b :: c :: d :: e :: f :: g :: tl).getD 6 z = g) ∧ (∀ (a b c d e f g h z : AV) (tl : List AV), (a :: b :: c :: d :: e :: f :: g :: h :: tl).getD 7 z = h) ∧ (∀ (a b c d e f g h i z : AV) (tl : List AV), (a :: b :: c :: d :: e :: f :: g :: h :: i :: tl).getD 8 z = i) ∧ (∀ (a b c d e f g h i j z : AV) (tl : List AV), (a :: b :: c :: d :: e :: f :: g :: h :: i :: j :: tl).getD 9 z = j) ∧ (∀ (a b c d e f g h i j k z : AV) (tl : List AV), (a :: b :: c :: d :: e :: f :: g :: h :: i :: j :: k :: tl).getD 10 z = k) ∧ (∀ (a b c d e f g h i j k l z : AV) (tl : List AV), (a :: b :: c :: d :: e :: f :: g :: h :: i :: j :: k :: l :: tl).getD 11 z = l) ∧ (∀ (a b c d e f g h i j k l m z : AV) (tl : List AV), (a :: b :: c :: d :: e :: f :: g :: h :: i :: j :: k :: l :: m :: tl).getD 12 z = m) ∧ (∀ (a b c d e f g h : AV), asAgg 8 (.agg [a, b, c, d, e, f, g, h]) = some [a, b, c, d, e, f, g, h]) ∧ (∀ (a b c d e f g h i j k l m : AV), asAgg 13 (.agg [a, b, c, d, e, f, g, h, i, j, k, l, m]) = some [a, b, c, d, e, f, g, h, i, j, k, l, m]) := ⟨gD4, gD5, gD6, gD7, gD8, gD9, gD10, gD11, gD12, agg8, agg13⟩
structure Lb where
  pool : Int
  drive : Int
  drives : Int
  parity : Int
  time : Int
  addr : Int
  count : Int
  bytes : Int
  birth : Int
  s0 : Int
  s1 : Int
  s2 : Int
  s3 : Int
def Lb.row (x : Lb) : List AV := [.int .i64 x.pool, .int .i64 x.drive, .int .i64 x.drives, .int .i64 x.parity, .int .i64 x.time, .int .i64 x.addr, .int .i64 x.count, .int .i64 x.bytes, .int .i64 x.birth, .int .i64 x.s0, .int .i64 x.s1, .int .i64 x.s2, .int .i64 x.s3]
def Lb.may (x : Lb) : Prop := (1 ≤ x.pool ∧ x.pool ≤ 1048576) ∧ (2 ≤ x.drives ∧ x.drives ≤ 8) ∧ (0 ≤ x.drive ∧ x.drive ≤ x.drives - 1) ∧ (1 ≤ x.parity ∧ x.parity ≤ (if x.drives - 1 < 3 then x.drives - 1 else 3)) ∧ (0 ≤ x.time ∧ x.time ≤ 1048576) ∧ (0 ≤ x.addr ∧ x.addr ≤ 65536) ∧ (0 ≤ x.count ∧ x.count ≤ 32) ∧ (0 ≤ x.bytes ∧ x.bytes ≤ x.count * 128) ∧ (0 ≤ x.birth ∧ x.birth ≤ x.time)
instance (x : Lb) : Decidable x.may := by unfold Lb.may; infer_instance

theorem in_spec {f : Nat} (hf : 1 ≤ f) (Y : YldF) (a lo hi : Int) (h : AHeap) (nx : Nat) : callP Try.prog keepT f Y 20 [.int .i64 a, .int .i64 lo, .int .i64 hi] h nx = some (.bool (decide (lo ≤ a ∧ a ≤ hi)), h, nx + 10) := by
  obtain ⟨f, rfl⟩ : ∃ m, f = m + 1 := ⟨f - 1, by omega⟩
  rw [F20_eq]
  by_cases c : a ≥ lo
  · rw [if_pos (decide_eq_true c)]; simp [c]
  · rw [if_neg (by rw [decide_eq_true_eq]; exact c)]; simp [c]

theorem may_spec {f : Nat} (hf : 2 ≤ f) (Y : YldF) (x : Lb) (h : AHeap) (nx : Nat) : ∃ h' nx', callP Try.prog keepT f Y 10 [.agg x.row] h nx = some (.bool (decide x.may), h', nx') ∧ Ext h nx h' nx' := by
  obtain ⟨f, rfl⟩ : ∃ m, f = m + 1 := ⟨f - 1, by omega⟩
  show ∃ h' nx', callP Try.prog keepT (f + 1) Y 10 [.agg [.int .i64 x.pool, .int .i64 x.drive, .int .i64 x.drives, .int .i64 x.parity, .int .i64 x.time, .int .i64 x.addr, .int .i64 x.count, .int .i64 x.bytes, .int .i64 x.birth, .int .i64 x.s0, .int .i64 x.s1, .int .i64 x.s2, .int .i64 x.s3]] h nx = _ ∧ _
  rw [F10_eq]
  dsimp only
  generalize hh1 : h.put nx _ = h1
  have e1 : h1 nx = some ⟨[.int .i64 x.pool, .int .i64 x.drive, .int .i64 x.drives, .int .i64 x.parity, .int .i64 x.time, .int .i64 x.addr, .int .i64 x.count, .int .i64 x.bytes, .int .i64 x.birth, .int .i64 x.s0, .int .i64 x.s1, .int .i64 x.s2, .int .i64 x.s3], 13, true⟩ := by rw [← hh1, put_same]
  rw [ldr_at e1 (by simp)]
  rw [show asAgg 8 (AV.agg (([.int .i64 x.pool, .int .i64 x.drive, .int .i64 x.drives, .int .i64 x.parity, .int .i64 x.time, .int .i64 x.addr, .int .i64 x.count, .int .i64 x.bytes, .int .i64 x.birth, .int .i64 x.s0, .int .i64 x.s1, .int .i64 x.s2, .int .i64 x.s3] : List AV).drop 5 |>.take 8)) = some [.int .i64 x.addr, .int .i64 x.count, .int .i64 x.bytes, .int .i64 x.birth, .int .i64 x.s0, .int .i64 x.s1, .int .i64 x.s2, .int .i64 x.s3] from asAgg_mk (by simp)]
  simp only [mst_, mstL]
  rw [st_all (put_same h1 (nx + 4) _) (by simp) (by simp) (by simp [allOne, AV.one]), put_put]
  generalize hh2 : h1.put (nx + 4) _ = h2
  have f1 : h2 nx = some ⟨[.int .i64 x.pool, .int .i64 x.drive, .int .i64 x.drives, .int .i64 x.parity, .int .i64 x.time, .int .i64 x.addr, .int .i64 x.count, .int .i64 x.bytes, .int .i64 x.birth, .int .i64 x.s0, .int .i64 x.s1, .int .i64 x.s2, .int .i64 x.s3], 13, true⟩ := by rw [← hh2, put_ne (by omega)]; exact e1
  have f2 : h2 (nx + 4) = some ⟨[.int .i64 x.addr, .int .i64 x.count, .int .i64 x.bytes, .int .i64 x.birth, .int .i64 x.s0, .int .i64 x.s1, .int .i64 x.s2, .int .i64 x.s3], 8, true⟩ := by rw [← hh2, put_same]
  have x2 : ∀ m, nx ≤ m → Ext h nx h2 m := fun m hm => ⟨hm, fun i hi => by rw [← hh2, put_ne (by omega), ← hh1, put_ne (by omega)]⟩
  have no : ∀ m, ¬ x.may → nx ≤ m → ∃ h' nx', some (AV.bool false, h2, m) = some (AV.bool (decide x.may), h', nx') ∧ Ext h nx h' nx' := fun m q hm => ⟨h2, m, by rw [decide_eq_false q], x2 m hm⟩
  rw [ld_at f1 (v := .int .i64 x.pool) rfl]
  simp only [mst_]
  rw [in_spec (by omega)]
  simp only [mst_]
  by_cases c1 : 1 ≤ x.pool ∧ x.pool ≤ 1048576
  case neg => rw [decide_eq_false c1, if_false']; exact no _ (fun q => c1 q.1) (by omega)
  rw [decide_eq_true c1, if_true', ld_at f1 (v := .int .i64 x.drives) rfl]
  simp only [mst_]
  rw [in_spec (by omega)]
  simp only [mst_]
  by_cases c2 : 2 ≤ x.drives ∧ x.drives ≤ 8
  case neg => rw [decide_eq_false c2, if_false']; exact no _ (fun q => c2 q.2.1) (by omega)
  rw [decide_eq_true c2, if_true', ld_at f1 (v := .int .i64 x.drive) rfl]
  simp only [mst_]
  rw [ld_at f1 (v := .int .i64 x.drives) rfl]
  simp only [mst_]
  have hw : wrapA .i64 (x.drives - 1) = x.drives - 1 := wA (by omega) (by omega)
  rw [hw, in_spec (by omega)]
  simp only [mst_]
  by_cases c3 : 0 ≤ x.drive ∧ x.drive ≤ x.drives - 1
  case neg => rw [decide_eq_false c3, if_false']; exact no _ (fun q => c3 q.2.2.1) (by omega)
  rw [decide_eq_true c3, if_true', ld_at f1 (v := .int .i64 x.parity) rfl]
  simp only [mst_]
  rw [ld_at f1 (v := .int .i64 x.drives) rfl]
  simp only [mst_]
  rw [hw, in_spec (by omega)]
  simp only [mst_]
  by_cases c4 : 1 ≤ x.parity ∧ x.parity ≤ (if x.drives - 1 < 3 then x.drives - 1 else 3)
  case neg => rw [decide_eq_false c4, if_false']; exact no _ (fun q => c4 q.2.2.2.1) (by omega)
  rw [decide_eq_true c4, if_true', ld_at f1 (v := .int .i64 x.time) rfl]
  simp only [mst_]
  rw [in_spec (by omega)]
  simp only [mst_]
  by_cases c5 : 0 ≤ x.time ∧ x.time ≤ 1048576
  case neg => rw [decide_eq_false c5, if_false']; exact no _ (fun q => c5 q.2.2.2.2.1) (by omega)
  rw [decide_eq_true c5, if_true', ld_at f2 (v := .int .i64 x.addr) rfl]
  simp only [mst_]
  rw [in_spec (by omega)]
  simp only [mst_]
  by_cases c6 : 0 ≤ x.addr ∧ x.addr ≤ 65536
  case neg => rw [decide_eq_false c6, if_false']; exact no _ (fun q => c6 q.2.2.2.2.2.1) (by omega)
  rw [decide_eq_true c6, if_true', ld_at f2 (v := .int .i64 x.count) rfl]
  simp only [mst_]
  rw [in_spec (by omega)]
  simp only [mst_]
  by_cases c7 : 0 ≤ x.count ∧ x.count ≤ 32
  case neg => rw [decide_eq_false c7, if_false']; exact no _ (fun q => c7 q.2.2.2.2.2.2.1) (by omega)
  rw [decide_eq_true c7, if_true', ld_at f2 (v := .int .i64 x.bytes) rfl]
  simp only [mst_]
  rw [ld_at f2 (v := .int .i64 x.count) rfl]
  simp only [mst_]
  rw [show wrapA .i64 (x.count * 128) = x.count * 128 from wA (by omega) (by omega), in_spec (by omega)]
  simp only [mst_]
  by_cases c8 : 0 ≤ x.bytes ∧ x.bytes ≤ x.count * 128
  case neg => rw [decide_eq_false c8, if_false']; exact no _ (fun q => c8 q.2.2.2.2.2.2.2.1) (by omega)
  rw [decide_eq_true c8, if_true', ld_at f2 (v := .int .i64 x.birth) rfl]
  simp only [mst_]
  rw [ld_at f1 (v := .int .i64 x.time) rfl]
  simp only [mst_]
  rw [in_spec (by omega)]
  simp only [mst_]
  refine ⟨h2, nx + 62 + 10 + 10 + 10 + 10 + 10 + 10 + 10 + 10 + 10, ?_, x2 _ (by omega)⟩
  have : (0 ≤ x.birth ∧ x.birth ≤ x.time) ↔ x.may := ⟨fun q => ⟨c1, c2, c3, c4, c5, c6, c7, c8, q⟩, fun q => q.2.2.2.2.2.2.2.2⟩
  rw [decide_eq_decide.2 this]

end Go.Proofs.Ytkidbgfegnmhdaa.T
