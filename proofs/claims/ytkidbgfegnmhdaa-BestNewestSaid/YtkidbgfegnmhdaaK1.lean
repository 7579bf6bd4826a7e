/- Flet sums (out of the texts of seat b). -/
import Derived.Test.YtkidbgfegnmhdaaTK
import Derived.Test.YtkidbgfegnmhdaaPl
set_option linter.unusedVariables false
set_option linter.unusedSimpArgs false
namespace Go.Proofs.Ytkidbgfegnmhdaa.T
open Go Go.RowKit Go.Proofs

/-- The four sums, exact. -/
structure Sm where
  a : Int
  b : Int
  c : Int
  d : Int
def Sm.step (s : Sm) (w : Int) : Sm := ⟨s.a + w, s.b + (s.a + w), s.c + (s.b + (s.a + w)), s.d + (s.c + (s.b + (s.a + w)))⟩
/-- Their cells, wrapped. -/
noncomputable def Sm.cells (s : Sm) : List AV := [.int .i64 (wrapA .i64 s.a), .int .i64 (wrapA .i64 s.b), .int .i64 (wrapA .i64 s.c), .int .i64 (wrapA .i64 s.d)]
theorem wrap_add (x y : Int) : wrapA .i64 (wrapA .i64 x + wrapA .i64 y) = wrapA .i64 (x + y) := by
  rw [wrapA_def, wrapA_def, wrapA_def, wrapA_def]; show wrap64 (wrap64 x + wrap64 y) = wrap64 (x + y); unfold wrap64; omega
theorem wrap_addl (x y : Int) : wrapA .i64 (wrapA .i64 x + y) = wrapA .i64 (x + y) := by
  rw [wrapA_def, wrapA_def, wrapA_def]; show wrap64 (wrap64 x + y) = wrap64 (x + y); unfold wrap64; omega
theorem wrap_addr (x y : Int) : wrapA .i64 (x + wrapA .i64 y) = wrapA .i64 (x + y) := by
  rw [wrapA_def, wrapA_def, wrapA_def]; show wrap64 (x + wrap64 y) = wrap64 (x + y); unfold wrap64; omega
theorem w01 : wrapA .i64 (0 + 1) = 1 := by rw [wA (by omega) (by omega)]; rfl
theorem w12 : wrapA .i64 (1 + 1) = 2 := by rw [wA (by omega) (by omega)]; rfl
theorem w23 : wrapA .i64 (2 + 1) = 3 := by rw [wA (by omega) (by omega)]; rfl
theorem w34 : wrapA .i64 (3 + 1) = 4 := by rw [wA (by omega) (by omega)]; rfl
theorem tn0 : Int.toNat 0 * 1 = 0 := by decide
theorem tn1 : Int.toNat 1 * 1 = 1 := by decide
theorem tn2 : Int.toNat 2 * 1 = 2 := by decide
theorem tn3 : Int.toNat 3 * 1 = 3 := by decide

theorem word_spec {k : Nat} (hk : 6 ≤ k) (s : Sm) (w : Int) (h : AHeap) (nx : Nat) :
    ∃ h' nx', callP Try.prog keepT k Y0 23 [.agg s.cells, .int .i64 w] h nx = some (.agg (s.step w).cells, h', nx') ∧ Ext h nx h' nx' := by
  obtain ⟨k, rfl⟩ : ∃ m, k = m + 1 := ⟨k - 1, by omega⟩
  obtain ⟨lf, hlf⟩ : ∃ m, k = m + 5 := ⟨k - 5, by omega⟩
  rw [F23_eq, if_pos (by simp [Sm.cells, allOne, AV.one])]
  dsimp only
  generalize callP Try.prog keepT k Y0 = call
  rw [hlf]
  have ne1 : nx ≠ nx + 1 := by omega
  rw [F23_L1_eq, if_pos (by decide), some_bind, if_pos (by decide), tn0, ld_at ((put_ne ne1).trans (put_same _ _ _)) rfl]
  simp only [mst_]
  rw [if_pos (by decide), st_one ((put_ne ne1).trans (put_same _ _ _)) rfl (by simp [Sm.cells])]
  rw [if_pos (by decide), ld_at (put_same _ _ _) rfl]
  simp only [mst_]
  rw [w01]
  rw [F23_L1_eq, if_pos (by decide), some_bind, if_pos (by decide), tn1, ld_at (put_same _ _ _) rfl]
  simp only [mst_]
  rw [if_pos (by decide), st_one (put_same _ _ _) rfl (by simp [Sm.cells]), put_put]
  rw [if_pos (by decide), ld_at (put_same _ _ _) rfl]
  simp only [mst_]
  rw [w12]
  rw [F23_L1_eq, if_pos (by decide), some_bind, if_pos (by decide), tn2, ld_at (put_same _ _ _) rfl]
  simp only [mst_]
  rw [if_pos (by decide), st_one (put_same _ _ _) rfl (by simp [Sm.cells]), put_put]
  rw [if_pos (by decide), ld_at (put_same _ _ _) rfl]
  simp only [mst_]
  rw [w23]
  rw [F23_L1_eq, if_pos (by decide), some_bind, if_pos (by decide), tn3, ld_at (put_same _ _ _) rfl]
  simp only [mst_]
  rw [if_pos (by decide), st_to (cs' := (s.step w).cells) (put_same _ _ _) rfl (by simp [Sm.cells]) (by simp [Sm.cells, Sm.step, wrap_add, wrap_addl, wrap_addr]), put_put]
  rw [if_pos (by decide), ld_at (put_same _ _ _) rfl]
  simp only [mst_]
  rw [w34]
  rw [F23_L1_eq, if_neg (by decide), some_bind, ldr_all (put_same _ _ _) (by rfl), some_bind, st_all ((put_ne (by omega)).trans (put_same _ _ _)) (by rfl) (by rfl) (by rfl), some_bind, ldr_all (put_same _ _ _) (by rfl)]
  refine ⟨_, _, rfl, by omega, ?_⟩
  intro i hi
  rw [put_ne (by omega), put_ne (by omega), put_ne (by omega), put_ne (by omega)]

theorem sum_spec {k : Nat} (hk : 1 ≤ k) (s : Sm) (h : AHeap) (nx : Nat) : ∃ h' nx', callP Try.prog keepT k Y0 24 [.agg s.cells] h nx = some (.agg s.cells, h', nx') ∧ Ext h nx h' nx' := by
  obtain ⟨k, rfl⟩ : ∃ m, k = m + 1 := ⟨k - 1, by omega⟩
  have ne1 : nx ≠ nx + 1 := by omega
  rw [F24_eq, if_pos (by simp [Sm.cells, allOne, AV.one])]
  rw [if_pos (by decide), tn0, ld_at ((put_ne ne1).trans (put_same _ _ _)) rfl]
  simp only [mst_]
  rw [if_pos (by decide), tn1, ld_at ((put_ne ne1).trans (put_same _ _ _)) rfl]
  simp only [mst_]
  rw [if_pos (by decide), tn2, ld_at ((put_ne ne1).trans (put_same _ _ _)) rfl]
  simp only [mst_]
  rw [if_pos (by decide), tn3, ld_at ((put_ne ne1).trans (put_same _ _ _)) rfl]
  simp only [mst_]
  rw [st_all (put_same _ _ _) (by rfl) (by rfl) (by rfl)]
  rw [ldr_all (put_same _ _ _) (by rfl)]
  simp only [mst_]
  refine ⟨_, _, rfl, by omega, ?_⟩
  intro i hi
  rw [put_ne (by omega), put_ne (by omega), put_ne (by omega)]

theorem of_spec {k : Nat} (hk : 1 ≤ k) (s : Sm) (h : AHeap) (nx : Nat) : ∃ h', callP Try.prog keepT k Y0 22 [.agg s.cells] h nx = some (.agg s.cells, h', nx + 12) ∧ Ext h nx h' (nx + 12) := by
  obtain ⟨k, rfl⟩ : ∃ m, k = m + 1 := ⟨k - 1, by omega⟩
  have ne1 : nx ≠ nx + 1 := by omega
  show ∃ h', callP Try.prog keepT (k + 1) Y0 22 [.agg [.int .i64 (wrapA .i64 s.a), .int .i64 (wrapA .i64 s.b), .int .i64 (wrapA .i64 s.c), .int .i64 (wrapA .i64 s.d)]] h nx = _ ∧ _
  rw [F22_eq]
  rw [ld_at ((put_ne ne1).trans (put_same _ _ _)) rfl]
  simp only [mst_]
  rw [ld_at ((put_ne ne1).trans (put_same _ _ _)) rfl]
  simp only [mst_]
  rw [ld_at ((put_ne ne1).trans (put_same _ _ _)) rfl]
  simp only [mst_]
  rw [ld_at ((put_ne ne1).trans (put_same _ _ _)) rfl]
  simp only [mst_]
  rw [st_all (put_same _ _ _) (by rfl) (by rfl) (by rfl)]
  rw [ldr_all (put_same _ _ _) (by rfl)]
  refine ⟨_, rfl, by omega, ?_⟩
  intro i hi
  rw [put_ne (by omega), put_ne (by omega), put_ne (by omega)]



theorem or_low {i : Nat} (hi : i ≤ 31) (x y : Int) (hx0 : 0 ≤ x) (hx : x < 2 ^ i) (hy0 : 0 ≤ y) (hy : y % 2 ^ i = 0) (hy1 : y < 4294967296) : bits .or .i64 x y = x + y := by
  have hk : ∀ n : Int, 0 ≤ n → n < 2 ^ 32 → IntKind.i64.wrap n = n := fun n h0 h1 => by rw [IntKind.wrap_i64]; omega
  obtain ⟨a, rfl⟩ := Int.eq_ofNat_of_zero_le hx0
  obtain ⟨b, rfl⟩ := Int.eq_ofNat_of_zero_le hy0
  have hp : (2 : Int) ^ i ≤ 2 ^ 31 := by
    have : (2 : Nat) ^ i ≤ 2 ^ 31 := Nat.pow_le_pow_right (by decide) hi
    exact_mod_cast this
  have ha : (a : Int) < 4294967296 := by omega
  have e := bits_join .i64 32 (by decide) hk i (b : Int) (a : Int) (by omega) hy (by omega) (by omega) hx (by omega)
  rw [(bits_nat .i64 32 (by decide) hk b a (by omega) (by omega)).2] at e
  rw [(bits_nat .i64 32 (by decide) hk a b (by omega) (by omega)).2, Nat.or_comm, e, Int.add_comm]

def wordOf (a b c d : Int) : Int := a + b * 256 + c * 65536 + d * 16777216
theorem word_bits (a b c d : Int) (ha : 0 ≤ a ∧ a < 256) (hb : 0 ≤ b ∧ b < 256) (hc : 0 ≤ c ∧ c < 256) (hd : 0 ≤ d ∧ d < 256) :
    bits .or .i64 (bits .or .i64 (bits .or .i64 (wrapA .i64 a) (wrapA .i64 ((wrapA .i64 b) * (2:Int) ^ min (Int.toNat 8) (IntKind.bits .i64)))) (wrapA .i64 ((wrapA .i64 c) * (2:Int) ^ min (Int.toNat 16) (IntKind.bits .i64)))) (wrapA .i64 ((wrapA .i64 d) * (2:Int) ^ min (Int.toNat 24) (IntKind.bits .i64))) = wordOf a b c d := by
  have e8 : (2:Int) ^ min (Int.toNat 8) (IntKind.bits .i64) = 256 := by decide
  have e16 : (2:Int) ^ min (Int.toNat 16) (IntKind.bits .i64) = 65536 := by decide
  have e24 : (2:Int) ^ min (Int.toNat 24) (IntKind.bits .i64) = 16777216 := by decide
  rw [e8, e16, e24, wA (x := a) (by omega) (by omega), wA (x := b) (by omega) (by omega), wA (x := c) (by omega) (by omega), wA (x := d) (by omega) (by omega), wA (x := b * 256) (by omega) (by omega), wA (x := c * 65536) (by omega) (by omega), wA (x := d * 16777216) (by omega) (by omega)]
  rw [or_low (i := 8) (by decide) a (b * 256) (by omega) (by omega) (by omega) (by omega) (by omega)]
  rw [or_low (i := 16) (by decide) (a + b * 256) (c * 65536) (by omega) (by omega) (by omega) (by omega) (by omega)]
  rw [or_low (i := 24) (by decide) (a + b * 256 + c * 65536) (d * 16777216) (by omega) (by omega) (by omega) (by omega) (by omega)]
  rfl

def wordsOf : List Int → List Int
  | a :: b :: c :: d :: r => wordOf a b c d :: wordsOf r
  | _ => []
def Bytes (l : List Int) : Prop := ∀ x ∈ l, 0 ≤ x ∧ x < 256
theorem wordsOf_append : ∀ (m : Nat) (l r : List Int), l.length = 4 * m → wordsOf (l ++ r) = wordsOf l ++ wordsOf r
  | 0, l, r, h => by
    have : l = [] := List.length_eq_zero_iff.1 (by omega)
    subst this; rfl
  | m + 1, l, r, h => by
    obtain ⟨a, b, c, d, l', rfl⟩ : ∃ a b c d l', l = a :: b :: c :: d :: l' := by
      match l, h with
      | a :: b :: c :: d :: l', _ => exact ⟨a, b, c, d, l', rfl⟩
    simp only [List.cons_append, wordsOf]
    rw [wordsOf_append m l' r (by simp at h; omega)]
theorem wordsOf_length : ∀ (m : Nat) (l : List Int), l.length = 4 * m → (wordsOf l).length = m
  | 0, l, h => by
    have : l = [] := List.length_eq_zero_iff.1 (by omega)
    subst this; rfl
  | m + 1, l, h => by
    obtain ⟨a, b, c, d, l', rfl⟩ : ∃ a b c d l', l = a :: b :: c :: d :: l' := by
      match l, h with
      | a :: b :: c :: d :: l', _ => exact ⟨a, b, c, d, l', rfl⟩
    simp only [wordsOf, List.length_cons]
    rw [wordsOf_length m l' (by simp at h; omega)]
def Sm.fold (s : Sm) (ws : List Int) : Sm := ws.foldl Sm.step s

theorem more_loop {k0 : Nat} (hk0 : 6 ≤ k0) (lf : Nat) {h0 : AHeap} {nx0 i4 i6 : Nat} (hi4 : nx0 ≤ i4) (hi6 : nx0 ≤ i6) (h46 : i4 ≠ i6) (m : Nat) :
    ∀ (l : List Int) (s : Sm) (r : Nat) (a : Option (Nat × Nat)) (c : Option Nat) (h : AHeap) (nx : Nat) (cs : List AV), l.length = 4 * m → m < r → Bytes l → Sl h0 nx0 a l.length 1 (ints .u8 l) → Ext h0 nx0 h nx → i4 < nx → i6 < nx → h i6 = some ⟨s.cells, 1, true⟩ → h i4 = some ⟨cs, 4, true⟩ → cs.length = 4 →
    ∃ h' nx', F21_L1 (callP Try.prog keepT k0) Y0 lf r a l.length c (some (i4, 0)) (some (i6, 0)) h nx = some (.tuple [.agg (s.fold (wordsOf l)).cells, .int .i64 0], h', nx') ∧ Ext h0 nx0 h' nx' := by
  induction m with
  | zero =>
    intro l s r a c h nx cs hl hr hb hs hx h4 h6 b6 b4 hcs
    obtain ⟨r, rfl⟩ : ∃ m, r = m + 1 := ⟨r - 1, by omega⟩
    have hl0 : l = [] := List.length_eq_zero_iff.1 (by omega)
    subst hl0
    obtain ⟨h1, n1, e1, x1⟩ := sum_spec (k := k0) (by omega) s h (nx + 7)
    have b4' : h1 i4 = some ⟨cs, 4, true⟩ := (x1.2 i4 (by omega)).trans b4
    have x1' := x1.1
    rw [F21_L1_eq, if_neg (by simp), some_bind, ldr_all b6 (by rfl), e1]
    simp only [mst_]
    show ∃ h' nx', ((asAgg 4 (AV.agg [.int .i64 (wrapA .i64 s.a), .int .i64 (wrapA .i64 s.b), .int .i64 (wrapA .i64 s.c), .int .i64 (wrapA .i64 s.d)])).bind _ = _) ∧ _
    rw [asAgg_4]
    simp only [mst_]
    rw [st_all b4' (by rfl) hcs (by rfl), ldr_all (put_same _ _ _) (by rfl), asAgg_4]
    simp only [mst_]
    refine ⟨_, _, rfl, by have := hx.1; omega, fun i hi => ?_⟩
    rw [put_ne (by omega), x1.2 i (by have := hx.1; omega), hx.2 i hi]
  | succ m ih =>
    intro l s r a c h nx cs hl hr hb hs hx h4 h6 b6 b4 hcs
    obtain ⟨r, rfl⟩ : ∃ m, r = m + 1 := ⟨r - 1, by omega⟩
    obtain ⟨w0, w1, w2, w3, l', rfl⟩ : ∃ a b c d l', l = a :: b :: c :: d :: l' := by
      match l, hl with
      | a :: b :: c :: d :: l', _ => exact ⟨a, b, c, d, l', rfl⟩
    generalize hL : w0 :: w1 :: w2 :: w3 :: l' = L at *
    have hlen : L.length = l'.length + 4 := by rw [← hL]; simp
    have hsx := hs.ext hx
    have g0 := Sl.readI (R := AV × AHeap × Nat) hsx (i := 0) (by omega)
    have g1 := Sl.readI (R := AV × AHeap × Nat) hsx (i := 1) (by omega)
    have g2 := Sl.readI (R := AV × AHeap × Nat) hsx (i := 2) (by omega)
    have g3 := Sl.readI (R := AV × AHeap × Nat) hsx (i := 3) (by omega)
    rw [show L[0] = w0 from by subst hL; rfl] at g0
    rw [show L[1] = w1 from by subst hL; rfl] at g1
    rw [show L[2] = w2 from by subst hL; rfl] at g2
    rw [show L[3] = w3 from by subst hL; rfl] at g3
    have q0 := hb w0 (by rw [← hL]; simp)
    have q1 := hb w1 (by rw [← hL]; simp)
    have q2 := hb w2 (by rw [← hL]; simp)
    have q3 := hb w3 (by rw [← hL]; simp)
    rw [F21_L1_eq, if_pos (by simp; omega), some_bind, ldr_all b6 (by rfl)]
    erw [g0]
    simp only [mst_]
    erw [g1]
    simp only [mst_]
    erw [g2]
    simp only [mst_]
    erw [g3]
    simp only [mst_]
    rw [word_bits w0 w1 w2 w3 q0 q1 q2 q3]
    obtain ⟨h1, n1, e1, x1⟩ := word_spec (k := k0) (by omega) s (wordOf w0 w1 w2 w3) h (nx + 28)
    have x1' := x1.1
    have hx' := hx.1
    have b6' : h1 i6 = some ⟨s.cells, 1, true⟩ := (x1.2 i6 (by omega)).trans b6
    have b4' : h1 i4 = some ⟨cs, 4, true⟩ := (x1.2 i4 (by omega)).trans b4
    rw [e1]
    simp only [mst_]
    rw [show asRow (AV.agg (s.step (wordOf w0 w1 w2 w3)).cells) = some (s.step (wordOf w0 w1 w2 w3)).cells from rfl, some_bind, st_all b6' (by rfl) (by rfl) (by rfl)]
    have hx2 : Ext h0 nx0 (h1.put i6 (some ⟨(s.step (wordOf w0 w1 w2 w3)).cells, 1, true⟩)) (n1 + 3) := ⟨by omega, fun i hi => by rw [put_ne (by omega), x1.2 i (by omega), hx.2 i hi]⟩
    obtain ⟨ce, _, _⟩ := (hs.ext hx2).cut c (lo := 4) (hi := L.length) (by omega) (Nat.le_refl _) (l := some (.int .i64 4)) (r := none) (by simp [boundA]; omega) bound_none
    obtain ⟨_, cs', _⟩ := hs.cut c (lo := 4) (hi := L.length) (by omega) (Nat.le_refl _) (l := some (.int .i64 4)) (r := none) (by simp [boundA]; omega) bound_none
    rw [ce]
    simp only [mst_]
    have hd : ((ints .u8 L).drop (4 * 1)).take ((L.length - 4) * 1) = ints .u8 l' := by
      rw [show (L.length - 4) * 1 = l'.length by omega, ← hL]
      show (ints .u8 l').take l'.length = _
      rw [List.take_of_length_le (by simp [ints])]
    rw [hd] at cs'
    have hll : L.length - 4 = l'.length := by omega
    rw [hll] at cs' ⊢
    have fw : s.fold (wordsOf L) = (s.step (wordOf w0 w1 w2 w3)).fold (wordsOf l') := by rw [← hL]; rfl
    rw [fw]
    exact ih l' _ r _ _ _ (n1 + 3) cs (by omega) (by omega) (fun x hxm => hb x (by rw [← hL]; simp [hxm])) cs' hx2 (by omega) (by omega) (put_same _ _ _) ((put_ne h46).trans b4') hcs

theorem more_spec {k : Nat} (s : Sm) (l : List Int) (m : Nat) (hl : l.length = 4 * m) (hk : m + 10 ≤ k) (hb : Bytes l) {a : Option (Nat × Nat)} (c : Option Nat) {h : AHeap} {nx : Nat} (hs : Sl h nx a l.length 1 (ints .u8 l)) :
    ∃ h' nx', callP Try.prog keepT k Y0 21 [.agg s.cells, .slice a l.length c] h nx = some (.tuple [.agg (s.fold (wordsOf l)).cells, .int .i64 0], h', nx') ∧ Ext h nx h' nx' := by
  obtain ⟨k, rfl⟩ : ∃ m, k = m + 1 := ⟨k - 1, by omega⟩
  have ne1 : nx ≠ nx + 1 := by omega
  have hmod : Int.tmod ((l.length : Nat) : Int) 4 = 0 := by rw [Int.tmod_eq_emod_of_nonneg (by omega)]; omega
  show ∃ h' nx', callP Try.prog keepT (k + 1) Y0 21 [.agg [.int .i64 (wrapA .i64 s.a), .int .i64 (wrapA .i64 s.b), .int .i64 (wrapA .i64 s.c), .int .i64 (wrapA .i64 s.d)], .slice a l.length c] h nx = _ ∧ _
  rw [F21_eq, hmod, if_neg (by decide), ldr_all ((put_ne ne1).trans (put_same _ _ _)) (by rfl), asAgg_4]
  simp only [mst_]
  generalize hH : (h.put nx (some ⟨[.int .i64 (wrapA .i64 s.a), .int .i64 (wrapA .i64 s.b), .int .i64 (wrapA .i64 s.c), .int .i64 (wrapA .i64 s.d)], 4, true⟩)).put (nx + 1) (some ⟨[.int .i64 0, .int .i64 0, .int .i64 0, .int .i64 0], 4, true⟩) = H
  have hH1 : H (nx + 1) = some ⟨[.int .i64 0, .int .i64 0, .int .i64 0, .int .i64 0], 4, true⟩ := by rw [← hH, put_same]
  have hxH : Ext h nx H (nx + 11) := ⟨by omega, fun i hi => by rw [← hH, put_ne (by omega), put_ne (by omega)]⟩
  obtain ⟨h1, e1, x1⟩ := of_spec (k := k) (by omega) s H (nx + 11)
  have e1' : callP Try.prog keepT k Y0 22 [.agg [.int .i64 (wrapA .i64 s.a), .int .i64 (wrapA .i64 s.b), .int .i64 (wrapA .i64 s.c), .int .i64 (wrapA .i64 s.d)]] H (nx + 11) = some (.agg s.cells, h1, nx + 11 + 12) := e1
  rw [e1']
  simp only [mst_]
  rw [show asRow (AV.agg s.cells) = some s.cells from rfl, some_bind, st_all (put_same _ _ _) (by rfl) (by rfl) (by rfl)]
  have hx2 : Ext h nx ((h1.put (nx + 9) (some ⟨[.int .i64 0, .int .i64 0, .int .i64 0, .int .i64 0], 1, true⟩)).put (nx + 9) (some ⟨s.cells, 1, true⟩)) (nx + 11 + 12) :=
    ⟨by omega, fun i hi => by rw [put_ne (by omega), put_ne (by omega), x1.2 i (by omega), hxH.2 i hi]⟩
  obtain ⟨h', nx', e2, x2⟩ := more_loop (k0 := k) (by omega) k (h0 := h) (nx0 := nx) (i4 := nx + 1) (i6 := nx + 9) (by omega) (by omega) (by omega) m l s k a c _ (nx + 11 + 12) _ hl (by omega) hb hs hx2 (by omega) (by omega) (put_same _ _ _) ((put_ne (by omega)).trans ((put_ne (by omega)).trans ((x1.2 (nx + 1) (by omega)).trans hH1))) rfl
  exact ⟨h', nx', e2, x2⟩

def Sm.zero : Sm := ⟨0, 0, 0, 0⟩
theorem ofb_spec {k : Nat} (l : List Int) (m : Nat) (hl : l.length = 4 * m) (hk : m + 20 ≤ k) (hb : Bytes l) {a : Option (Nat × Nat)} (c : Option Nat) {h : AHeap} {nx : Nat} (hs : Sl h nx a l.length 1 (ints .u8 l)) :
    ∃ h' nx', callP Try.prog keepT k Y0 17 [.slice a l.length c] h nx = some (.tuple [.agg (Sm.zero.fold (wordsOf l)).cells, .int .i64 0], h', nx') ∧ Ext h nx h' nx' := by
  obtain ⟨k, rfl⟩ : ∃ m, k = m + 1 := ⟨k - 1, by omega⟩
  have hx : Ext h nx (h.put nx (some ⟨[.int .i64 0, .int .i64 0, .int .i64 0, .int .i64 0], 4, true⟩)) (nx + 9) := ⟨by omega, fun i hi => put_ne (by omega)⟩
  obtain ⟨h1, n1, e1, x1⟩ := more_spec (k := k) Sm.zero l m hl (by omega) hb c (hs.ext hx)
  have e1' : callP Try.prog keepT k Y0 21 [.agg [.int .i64 0, .int .i64 0, .int .i64 0, .int .i64 0], .slice a l.length c] (h.put nx (some ⟨[.int .i64 0, .int .i64 0, .int .i64 0, .int .i64 0], 4, true⟩)) (nx + 9) = some (.tuple [.agg (Sm.zero.fold (wordsOf l)).cells, .int .i64 0], h1, n1) := by
    have z : Sm.zero.cells = [.int .i64 0, .int .i64 0, .int .i64 0, .int .i64 0] := by simp only [Sm.cells, Sm.zero]; rw [wA (by omega) (by omega)]
    rw [z] at e1; exact e1
  have x1' := x1.1
  rw [F17_eq]
  dsimp only
  rw [e1']
  simp only [mst_]
  generalize Sm.zero.fold (wordsOf l) = s
  rw [show asAgg 4 (AV.agg s.cells) = some [.int .i64 (wrapA .i64 s.a), .int .i64 (wrapA .i64 s.b), .int .i64 (wrapA .i64 s.c), .int .i64 (wrapA .i64 s.d)] from asAgg_4 _ _ _ _]
  simp only [mst_]
  rw [st_all ((x1.2 nx (by omega)).trans (put_same _ _ _)) (by rfl) (by rfl) (by rfl), ldr_all (put_same _ _ _) (by rfl), asAgg_4]
  simp only [mst_]
  exact ⟨_, _, rfl, by omega, fun i hi => by rw [put_ne (by omega), x1.2 i (by omega), put_ne (by omega)]⟩

end Go.Proofs.Ytkidbgfegnmhdaa.T
