/- Desk: steps, names, what is told. -/
import Derived.Test.YtahilinkfnchaaaDoorTK
import Derived.Test.YtahilinkfnchaaaDoorFH
import Derived.Test.YtahilinkfnchaaaDoorD1
set_option linter.unusedVariables false
set_option linter.unusedSimpArgs false
namespace Go.Proofs.YtahilinkfnchaaaDoor.T
open Go Go.RowKit Go.Proofs
set_option maxRecDepth 10000

/-! ### steps -/
theorem asAgg_5 (a b c d e : AV) : asAgg 5 (.agg [a, b, c, d, e]) = some [a, b, c, d, e] := asAgg_mk (by simp)
theorem asAgg_6 (a b c d e f : AV) : asAgg 6 (.agg [a, b, c, d, e, f]) = some [a, b, c, d, e, f] := asAgg_mk (by simp)
theorem asAgg_8 (a b c d e f g i : AV) : asAgg 8 (.agg [a, b, c, d, e, f, g, i]) = some [a, b, c, d, e, f, g, i] := asAgg_mk (by simp)
theorem getD_4 (a b c d e f : AV) (l : List AV) : (a :: b :: c :: d :: e :: l).getD 4 f = e := by simp
theorem getD_5 (a b c d e f g : AV) (l : List AV) : (a :: b :: c :: d :: e :: f :: l).getD 5 g = f := by simp
theorem getD_6 (a b c d e f g i : AV) (l : List AV) : (a :: b :: c :: d :: e :: f :: g :: l).getD 6 i = g := by simp
theorem getD_7 (a b c d e f g i j : AV) (l : List AV) : (a :: b :: c :: d :: e :: f :: g :: i :: l).getD 7 j = i := by simp
theorem asMp_mk (r : Option Nat) : asMp (.mapv r) = some r := by simp [asMp]
theorem mst5_ : (∀ a b c d e, asAgg 5 (.agg [a, b, c, d, e]) = some [a, b, c, d, e]) ∧ (∀ a b c d e f, asAgg 6 (.agg [a, b, c, d, e, f]) = some [a, b, c, d, e, f]) ∧ (∀ a b c d e f g i, asAgg 8 (.agg [a, b, c, d, e, f, g, i]) = some [a, b, c, d, e, f, g, i]) ∧
    (∀ (a b c d e f : AV) (l : List AV), (a :: b :: c :: d :: e :: l).getD 4 f = e) ∧ (∀ (a b c d e f g : AV) (l : List AV), (a :: b :: c :: d :: e :: f :: l).getD 5 g = f) ∧ (∀ (a b c d e f g i : AV) (l : List AV), (a :: b :: c :: d :: e :: f :: g :: l).getD 6 i = g) ∧
    (∀ (a b c d e f g i j : AV) (l : List AV), (a :: b :: c :: d :: e :: f :: g :: i :: l).getD 7 j = i) ∧ (∀ r, asMp (.mapv r) = some r) := ⟨asAgg_5, asAgg_6, asAgg_8, getD_4, getD_5, getD_6, getD_7, asMp_mk⟩

/-- What is told is laid into the result's cell and read from it: behind a call. -/
theorem tail5 {c : Option (AV × AHeap × Nat)} {i : Nat} {h1 : AHeap} {m1 : Nat} {l : List AV} {a z : Int} {b : Bool} {d1 e1 : Option (Nat × Nat)} {d2 e2 : Nat} {d3 e3 : Option Nat} (hc : c = some (.agg [.int .i64 a, .bool b, .int .i64 z, .slice d1 d2 d3, .slice e1 e2 e3], h1, m1)) (hb : h1 i = some ⟨l, 5, true⟩) (hl : l.length = 5) :
    (c.bind fun r5 => (asAgg 5 r5.1).bind fun d6 =>
      (asI .i64 (d6.getD 0 .bad)).bind fun n7 =>
      (asB (d6.getD 1 .bad)).bind fun t8 =>
      (asI .i64 (d6.getD 2 .bad)).bind fun n9 =>
      (asSl (d6.getD 3 .bad)).bind fun s10 =>
      (asSl (d6.getD 4 .bad)).bind fun s11 =>
      (stA r5.2.1 i 0 (.agg [(.int .i64 n7), (.bool t8), (.int .i64 n9), (.slice s10.1 s10.2.1 s10.2.2), (.slice s11.1 s11.2.1 s11.2.2)]) 5).bind fun b12 =>
      (ldR (AHeap.put r5.2.1 i (some b12)) i 0 5).bind fun l14 =>
      (asAgg 5 (AV.agg l14)).bind fun d15 =>
      (asI .i64 (d15.getD 0 .bad)).bind fun n16 =>
      (asB (d15.getD 1 .bad)).bind fun t17 =>
      (asI .i64 (d15.getD 2 .bad)).bind fun n18 =>
      (asSl (d15.getD 3 .bad)).bind fun s19 =>
      (asSl (d15.getD 4 .bad)).bind fun s20 =>
      some ((AV.agg [(.int .i64 n16), (.bool t17), (.int .i64 n18), (.slice s19.1 s19.2.1 s19.2.2), (.slice s20.1 s20.2.1 s20.2.2)]), AHeap.put r5.2.1 i (some b12), r5.2.2)) =
    some (AV.agg [.int .i64 a, .bool b, .int .i64 z, .slice d1 d2 d3, .slice e1 e2 e3], h1.put i (some ⟨[.int .i64 a, .bool b, .int .i64 z, .slice d1 d2 d3, .slice e1 e2 e3], 5, true⟩), m1) := by
  subst hc
  simp only [mst_, mst5_]
  rw [st_all hb (by simp) (by simp [hl]) (by simp [allOne, AV.one])]
  rw [ldr_all (put_same _ _ _) (by simp)]
  simp only [mst_, mst5_]
/-- The same, of cells that are there. -/
theorem tail5l {i : Nat} {h1 : AHeap} {m1 : Nat} {l : List AV} {a z : Int} {b : Bool} {d1 e1 : Option (Nat × Nat)} {d2 e2 : Nat} {d3 e3 : Option Nat} (hb : h1 i = some ⟨l, 5, true⟩) (hl : l.length = 5) :
    ((stA h1 i 0 (.agg [.int .i64 a, .bool b, .int .i64 z, .slice d1 d2 d3, .slice e1 e2 e3]) 5).bind fun b12 =>
      (ldR (AHeap.put h1 i (some b12)) i 0 5).bind fun l14 =>
      (asAgg 5 (AV.agg l14)).bind fun d15 =>
      (asI .i64 (d15.getD 0 .bad)).bind fun n16 =>
      (asB (d15.getD 1 .bad)).bind fun t17 =>
      (asI .i64 (d15.getD 2 .bad)).bind fun n18 =>
      (asSl (d15.getD 3 .bad)).bind fun s19 =>
      (asSl (d15.getD 4 .bad)).bind fun s20 =>
      some ((AV.agg [(.int .i64 n16), (.bool t17), (.int .i64 n18), (.slice s19.1 s19.2.1 s19.2.2), (.slice s20.1 s20.2.1 s20.2.2)]), AHeap.put h1 i (some b12), m1)) =
    some (AV.agg [.int .i64 a, .bool b, .int .i64 z, .slice d1 d2 d3, .slice e1 e2 e3], h1.put i (some ⟨[.int .i64 a, .bool b, .int .i64 z, .slice d1 d2 d3, .slice e1 e2 e3], 5, true⟩), m1) := by
  rw [st_all hb (by simp) (by simp [hl]) (by simp [allOne, AV.one])]
  rw [ldr_all (put_same _ _ _) (by simp)]
  simp only [mst_, mst5_]

theorem Ext.trans' {h h1 h2 : AHeap} {n m m1 n2 : Nat} (a : Ext h n h1 m) (b : Ext h1 m1 h2 n2) (l : n ≤ m1 := by omega) : Ext h n h2 n2 := ⟨Nat.le_trans l b.1, fun i hi => (b.2 i (by omega)).trans (a.2 i hi)⟩
/-! ### Name -/
def okByte (b : Int) : Bool := (decide (97 ≤ b) && decide (b ≤ 122)) || (decide (48 ≤ b) && decide (b ≤ 57))
def byts (s : ByteArray) : List Int := s.data.toList.map fun b => (b.toNat : Int)
def goodName (s : ByteArray) : Bool := (byts s).all okByte && decide (1 ≤ s.size) && decide (s.size ≤ 8)
theorem byts_len (s : ByteArray) : (byts s).length = s.size := by unfold byts; rw [List.length_map]; exact Array.length_toList
theorem bytesA_ints (s : ByteArray) : bytesA s = ints .u8 (byts s) := by simp [bytesA, ints, byts]

theorem name_loop (call : YldF → CallF) (Y : YldF) (lf : Nat) (s : ByteArray) (hs : s.size ≤ 1000000000) (px : Nat) (h : AHeap) (hp : h px = some ⟨bytesA s, 1, true⟩) : ∀ (k n0 i nx : Nat), s.size = i + k → k < n0 → 
    ∃ nx', F17_L1 call Y lf n0 s (some (px, 0)) s.size none (s.size : Int) (i : Int) h nx = some (.bool (((byts s).drop i).all okByte && decide (1 ≤ s.size) && decide (s.size ≤ 8)), h, nx') ∧ nx ≤ nx'
  | 0, n0 + 1, i, nx, hk, _ => by
    rw [F17_L1_eq, if_neg (by simp; omega), show (byts s).drop i = [] from List.drop_eq_nil_of_le (by rw [byts_len]; omega)]
    by_cases c : 1 ≤ s.size
    · rw [if_pos (by simp; omega)]
      exact ⟨nx + 10, by simp [c]; omega, by omega⟩
    · rw [if_neg (by simp; omega)]
      exact ⟨nx + 10, by simp [c], by omega⟩
  | k + 1, n0 + 1, i, nx, hk, hn => by
    have hi : i < (byts s).length := by rw [byts_len]; omega
    have hd : (byts s).drop i = (byts s)[i] :: (byts s).drop (i + 1) := List.drop_eq_getElem_cons hi
    have hget : (bytesA s)[0 + Int.toNat (i : Int) * 1]? = some (.int .u8 (byts s)[i]) := by
      rw [bytesA_ints, Int.toNat_natCast, Nat.zero_add]; exact ints_get hi
    rw [F17_L1_eq, if_pos (by simp; omega), some_bind, if_pos (by omega), ld_at hp hget]
    simp only [mst_, mst5_]
    rw [hd, List.all_cons]
    generalize hb : (byts s)[i] = b at *
    have go : ∀ nx, nx ≤ nx + 20 → okByte b = true → ∃ nx', F17_L1 call Y lf n0 s (some (px, 0)) s.size none (s.size : Int) (wrapA .i64 ((i : Int) + 1)) h (nx + 20) = some (.bool ((okByte b && ((byts s).drop (i + 1)).all okByte) && decide (1 ≤ s.size) && decide (s.size ≤ 8)), h, nx') ∧ nx ≤ nx' := fun nx _ ho => by
      rw [wsucc (by omega), ho, Bool.true_and]
      obtain ⟨nx', e, l⟩ := name_loop call Y lf s hs px h hp k n0 (i + 1) (nx + 20) (by omega) (by omega)
      exact ⟨nx', e, by omega⟩
    have no : ∀ nx, okByte b = false → ∃ nx', some ((AV.bool false), h, nx + 19) = some (.bool ((okByte b && ((byts s).drop (i + 1)).all okByte) && decide (1 ≤ s.size) && decide (s.size ≤ 8)), h, nx') ∧ nx ≤ nx' := fun nx ho => ⟨nx + 19, by rw [ho]; simp, by omega⟩
    by_cases c1 : b < 97
    · rw [if_pos (by simpa using c1)]
      by_cases c2 : b < 48
      · rw [if_pos (by simpa using c2)]; exact no nx (by simp [okByte]; omega)
      · rw [if_neg (by simpa using c2)]
        by_cases c3 : b > 57
        · rw [if_pos (by simpa using c3)]; exact no nx (by simp [okByte]; omega)
        · rw [if_neg (by simpa using c3)]; exact go nx (by omega) (by simp [okByte]; omega)
    · rw [if_neg (by simpa using c1)]
      by_cases c2 : b > 122
      · rw [if_pos (by simpa using c2), if_neg (by simp; omega), if_pos (by simp; omega)]; exact no nx (by simp [okByte]; omega)
      · rw [if_neg (by simpa using c2)]; exact go nx (by omega) (by simp [okByte]; omega)
theorem name_spec {n : Nat} (Y : YldF) {s : ByteArray} (hn : s.size + 2 ≤ n) (hs : s.size ≤ 1000000000) (h : AHeap) (nx : Nat) : ∃ h' nx', callP Tryd.prog keepT n Y 17 [.str s] h nx = some (.bool (goodName s), h', nx') ∧ Ext h nx h' nx' := by
  obtain ⟨n, rfl⟩ : ∃ m, n = m + 1 := ⟨n - 1, by omega⟩
  rw [F17_eq]
  dsimp only
  obtain ⟨nx', e, l⟩ := name_loop (callP Tryd.prog keepT n) Y n s hs (nx + 2) _ (put_same h (nx + 2) (some ⟨bytesA s, 1, true⟩)) s.size n 0 (nx + 5) (by omega) (by omega)
  exact ⟨_, nx', e, (Ext.refl h nx).put (by omega) (by omega)⟩
theorem made_ints (n : Nat) : madeA [AV.int .u8 0] (n * 1) = ints .u8 (List.replicate n 0) := by simp [madeA, ints]

/-- What a slice of a block holds, wholly. -/
theorem Sl.block {h : AHeap} {nx id : Nat} {bs : List Int} (hb : h id = some ⟨ints .u8 bs, 1, true⟩) (hid : id < nx) : Sl h nx (some (id, 0)) bs.length 1 (ints .u8 bs) :=
  ⟨by simp [ints], fun j hj => ⟨(id, 0), _, rfl, hid, hb, rfl, by simp [ints], fun q hq => by simp⟩⟩

/-- Older than n. -/
def Old (n : Nat) : Nat → Prop := fun i => i < n
theorem Byt.block {h : AHeap} {nx n0 id : Nat} {bs : List Int} (c : Option Nat) (hb : h id = some ⟨ints .u8 bs, 1, true⟩) (hid : id < nx) (h0 : n0 ≤ id) : Byt .u8 h nx (Old n0) (.slice (some (id, 0)) bs.length c) bs :=
  ⟨_, _, rfl, Sl.block hb hid, fun _ p e q => by
    obtain rfl := Option.some.inj e
    unfold Old at q; simp only at q; omega⟩
theorem Byt.none (h : AHeap) (nx : Nat) (A : Nat → Prop) (a : Option (Nat × Nat)) (c : Option Nat) : Byt .u8 h nx A (.slice a 0 c) [] := ⟨a, c, rfl, ⟨by simp [ints], fun j hj => by simp at hj⟩, Av.none⟩
def Txt (h : AHeap) (nx : Nat) (A : Nat → Prop) (v : AV) (ns : List ByteArray) : Prop := ∃ a c, v = .slice a ns.length c ∧ Sl h nx a ns.length 1 (ns.map AV.str) ∧ Av A a ns.length
theorem Txt.go {h h' : AHeap} {nx nx' : Nat} {A A' D : Nat → Prop} {v : AV} {ns : List ByteArray} (b : Txt h nx A v ns) (f : Frm D h nx h' nx') (d : ∀ i, i < nx → D i → A i) (g : ∀ i, i < nx → A' i → A i) : Txt h' nx' A' v ns := by
  obtain ⟨a, c, e, s, v⟩ := b
  exact ⟨a, c, e, s.fr (v.go s d) f, v.go s g⟩
theorem Txt.none (h : AHeap) (nx : Nat) (A : Nat → Prop) (a : Option (Nat × Nat)) (c : Option Nat) : Txt h nx A (.slice a 0 c) [] := ⟨a, c, rfl, ⟨rfl, fun j hj => by simp at hj⟩, Av.none⟩
def ob (bs : List UInt8) : List Int := bs.map fun b => (b.toNat : Int)
theorem ob_len (bs : List UInt8) : (ob bs).length = bs.length := by simp [ob]
structure Tld where
  code : Int
  done : Bool
  size : Int
  data : List UInt8
  names : List ByteArray
def ToldR (h : AHeap) (nx : Nat) (A : Nat → Prop) (t : Tld) (r : List AV) : Prop := ∃ d e, r = [.int .i64 t.code, .bool t.done, .int .i64 t.size, d, e] ∧ Byt .u8 h nx A d (ob t.data) ∧ Txt h nx A e t.names
theorem ToldR.go {h h' : AHeap} {nx nx' : Nat} {A A' D : Nat → Prop} {t : Tld} {r : List AV} (b : ToldR h nx A t r) (f : Frm D h nx h' nx') (d : ∀ i, i < nx → D i → A i) (g : ∀ i, i < nx → A' i → A i) : ToldR h' nx' A' t r := by
  obtain ⟨x, y, e, b1, b2⟩ := b
  exact ⟨x, y, e, b1.go f d g, b2.go f d g⟩
theorem bytes_loop (call : YldF → CallF) (Y : YldF) (lf : Nat) {h : AHeap} {nx1 nx2 : Nat} {a b : Option (Nat × Nat)} (ac bc : Option Nat) {bs : List Int} (s1 : Sl h nx1 a bs.length 1 (ints .u8 bs)) (s2 : Sl h nx2 b bs.length 1 (ints .u8 bs)) (hl : bs.length ≤ 3000000) :
    ∀ (k n0 i nx : Nat), bs.length = i + k → k < n0 → ∃ nx', F15_L1 call Y lf n0 a bs.length ac b bs.length bc (i : Int) h nx = some (.bool true, h, nx') ∧ nx ≤ nx'
  | 0, n0 + 1, i, nx, hk, _ => by
    rw [F15_L1_eq, if_neg (by simp; omega)]; exact ⟨_, rfl, by omega⟩
  | k + 1, n0 + 1, i, nx, hk, hn => by
    rw [F15_L1_eq, if_pos (by simp; omega), s1.readI (by omega)]
    simp only [mst_, mst5_]
    rw [s2.readI (by omega)]
    simp only [mst_, mst5_]
    rw [if_neg (by simp), wsucc (by omega)]
    obtain ⟨nx', e, l⟩ := bytes_loop call Y lf ac bc s1 s2 hl k n0 (i + 1) (nx + 16) (by omega) (by omega)
    exact ⟨nx', e, by omega⟩
theorem texts_loop (call : YldF → CallF) (Y : YldF) (lf : Nat) {h : AHeap} {nx1 nx2 : Nat} {a b : Option (Nat × Nat)} (ac bc : Option Nat) {ns : List ByteArray} (s1 : Sl h nx1 a ns.length 1 (ns.map AV.str)) (s2 : Sl h nx2 b ns.length 1 (ns.map AV.str)) (hl : ns.length ≤ 3000000) :
    ∀ (k n0 i nx : Nat), ns.length = i + k → k < n0 → ∃ nx', F26_L1 call Y lf n0 a ns.length ac b ns.length bc (i : Int) h nx = some (.bool true, h, nx') ∧ nx ≤ nx'
  | 0, n0 + 1, i, nx, hk, _ => by
    rw [F26_L1_eq, if_neg (by simp; omega)]; exact ⟨_, rfl, by omega⟩
  | k + 1, n0 + 1, i, nx, hk, hn => by
    have hi : i < ns.length := by omega
    have hg : (ns.map AV.str)[Int.toNat (i : Int) * 1]? = some (.str ns[i]) := by
      rw [Int.toNat_natCast, Nat.mul_one, List.getElem?_map, List.getElem?_eq_getElem hi]; rfl
    rw [F26_L1_eq, if_pos (by simp; omega), s1.read0 (by omega) (by omega) (by omega) hg]
    simp only [mst_, mst5_]
    rw [s2.read0 (by omega) (by omega) (by omega) hg]
    simp only [mst_, mst5_]
    rw [if_neg (by simp), wsucc (by omega)]
    obtain ⟨nx', e, l⟩ := texts_loop call Y lf ac bc s1 s2 hl k n0 (i + 1) (nx + 16) (by omega) (by omega)
    exact ⟨nx', e, by omega⟩

/-- SameTold, of what is told alike. -/
theorem same_told {n : Nat} (hn : 2000010 ≤ n) (Y : YldF) {h : AHeap} {nx : Nat} {t : Tld} {r1 r2 : List AV} {A1 A2 : Nat → Prop} (w1 : ToldR h nx A1 t r1) (w2 : ToldR h nx A2 t r2) (hd : (ob t.data).length ≤ 2000000) (hm : t.names.length ≤ 2000000) :
    ∃ h' nx', callP Tryd.prog keepT n Y 10 [.agg r1, .agg r2] h nx = some (.bool true, h', nx') ∧ Ext h nx h' nx' := by
  obtain ⟨n, rfl⟩ : ∃ m, n = m + 2 := ⟨n - 2, by omega⟩
  obtain ⟨_, _, rfl, ⟨da, dc, rfl, d1, _⟩, ⟨ua, uc, rfl, u1, _⟩⟩ := w1
  obtain ⟨_, _, rfl, ⟨ea, ec, rfl, e1, _⟩, ⟨va, vc, rfl, v1, _⟩⟩ := w2
  rw [F10_eq]
  dsimp only
  obtain ⟨h2, hh2⟩ : ∃ h2, h2 = AHeap.put (AHeap.put h nx (some ⟨[.int .i64 t.code, .bool t.done, .int .i64 t.size, .slice da (ob t.data).length dc, .slice ua t.names.length uc], 5, true⟩)) (nx + 1) (some ⟨[.int .i64 t.code, .bool t.done, .int .i64 t.size, .slice ea (ob t.data).length ec, .slice va t.names.length vc], 5, true⟩) := ⟨_, rfl⟩
  rw [← hh2]
  have b1 : h2 nx = some ⟨[.int .i64 t.code, .bool t.done, .int .i64 t.size, .slice da (ob t.data).length dc, .slice ua t.names.length uc], 5, true⟩ := by rw [hh2, put_ne (by omega), put_same]
  have b2 : h2 (nx + 1) = some ⟨[.int .i64 t.code, .bool t.done, .int .i64 t.size, .slice ea (ob t.data).length ec, .slice va t.names.length vc], 5, true⟩ := by rw [hh2, put_same]
  have x2 : Ext h nx h2 (nx + 2) := by rw [hh2]; exact ((Ext.refl h nx).put (m' := nx + 1) (by omega) (by omega)).put (by omega) (by omega)
  clear hh2
  rw [ld_at b1 (show _ = some (AV.int .i64 t.code) from rfl)]
  simp only [mst_, mst5_]
  rw [ld_at b2 (show _ = some (AV.int .i64 t.code) from rfl)]
  simp only [mst_, mst5_]
  rw [if_pos (by simp), ld_at b1 (show _ = some (AV.bool t.done) from rfl)]
  simp only [mst_, mst5_]
  rw [ld_at b2 (show _ = some (AV.bool t.done) from rfl)]
  simp only [mst_, mst5_]
  rw [if_pos (by simp), ld_at b1 (show _ = some (AV.int .i64 t.size) from rfl)]
  simp only [mst_, mst5_]
  rw [ld_at b2 (show _ = some (AV.int .i64 t.size) from rfl)]
  simp only [mst_, mst5_]
  rw [if_pos (by simp), ld_at b1 (show _ = some (AV.slice da (ob t.data).length dc) from rfl)]
  simp only [mst_, mst5_]
  rw [ld_at b2 (show _ = some (AV.slice ea (ob t.data).length ec) from rfl)]
  simp only [mst_, mst5_]
  rw [F15_eq, if_neg (by simp)]
  obtain ⟨n3, g1, g2⟩ := bytes_loop (callP Tryd.prog keepT n) Y n dc ec (d1.ext x2) (e1.ext x2) (by omega) (ob t.data).length n 0 (nx + 37 + 7) (by omega) (by omega)
  rw [show ((0 : Nat) : Int) = 0 from rfl] at g1
  rw [g1]
  simp only [mst_, mst5_]
  rw [if_pos trivial, ld_at b1 (show _ = some (AV.slice ua t.names.length uc) from rfl)]
  simp only [mst_, mst5_]
  rw [ld_at b2 (show _ = some (AV.slice va t.names.length vc) from rfl)]
  simp only [mst_, mst5_]
  rw [F26_eq, if_neg (by simp)]
  obtain ⟨n4, g3, g4⟩ := texts_loop (callP Tryd.prog keepT n) Y n uc vc (u1.ext x2) (v1.ext x2) (by omega) t.names.length n 0 (n3 + 7) (by omega) (by omega)
  rw [show ((0 : Nat) : Int) = 0 from rfl] at g3
  rw [g3]
  simp only [mst_, mst5_]
  exact ⟨_, _, rfl, x2.le (by omega)⟩

def nE : ByteArray := ByteArray.mk #[]
def pickL (x n : Int) : Int := if Int.tmod x n < 0 then Int.tmod x n + n else Int.tmod x n
def pickK (x n : Int) : Nat := if Int.tmod x n < 0 then 11 else 9
theorem pickL_bounds (x n : Int) (h : 0 < n) : 0 ≤ pickL x n ∧ pickL x n < n := by
  have h1 := Int.tmod_lt_of_pos x h
  have h2 : -n < Int.tmod x n := by
    have := Int.lt_tmod_of_pos x h
    omega
  unfold pickL; split <;> omega
theorem picked_spec {f : Nat} (hf : 1 ≤ f) (Y : YldF) (x n : Int) (h0 : 0 < n) (h1 : n ≤ 1099511627776) (h : AHeap) (nx : Nat) : callP Tryd.prog keepT f Y 6 [.int .i64 x, .int .i64 n] h nx = some (.int .i64 (pickL x n), h, nx + pickK x n) := by
  obtain ⟨f, rfl⟩ : ∃ m, f = m + 1 := ⟨f - 1, by omega⟩
  have h2 := Int.tmod_lt_of_pos x h0
  have h3 : -n < Int.tmod x n := by
    have := Int.lt_tmod_of_pos x h0
    omega
  rw [F6_eq, if_neg (by omega)]
  unfold pickL pickK
  by_cases c : Int.tmod x n < 0
  · rw [if_pos (decide_eq_true c), if_pos c, if_pos c, wA (by omega) (by omega)]
  · rw [if_neg (by simpa using c), if_neg c, if_neg c]

def objN : List ByteArray := [ByteArray.mk #[97], ByteArray.mk #[98], ByteArray.mk #[99, 51], ByteArray.mk #[122, 122], ByteArray.mk #[101]]
def snpN : List ByteArray := [ByteArray.mk #[115], ByteArray.mk #[116], ByteArray.mk #[117, 48], ByteArray.mk #[118]]
def objName (n : Int) : ByteArray := objN.getD (pickL n 5).toNat nE
def snpName (n : Int) : ByteArray := snpN.getD (pickL n 4).toNat nE
theorem objectName_spec {f : Nat} (hf : 2 ≤ f) (Y : YldF) (x : Int) (h : AHeap) (nx : Nat) : callP Tryd.prog keepT f Y 7 [.int .i64 x] h nx = some (.str (objName x), h.put (nx + 1) (some ⟨objN.map AV.str, 1, true⟩), nx + 7 + pickK x 5) := by
  obtain ⟨f, rfl⟩ : ∃ m, f = m + 1 := ⟨f - 1, by omega⟩
  obtain ⟨b1, b2⟩ := pickL_bounds x 5 (by decide)
  rw [F7_eq]
  dsimp only
  rw [picked_spec (by omega) Y x 5 (by decide) (by decide)]
  simp only [mst_, mst5_]
  have hi : (pickL x 5).toNat < objN.length := by show _ < 5; omega
  rw [if_pos (by omega), ld_at (put_same _ _ _) (show _ = some (AV.str (objName x)) from by
    rw [Nat.zero_add, Nat.mul_one]
    show (objN.map AV.str)[(pickL x 5).toNat]? = _
    rw [List.getElem?_map, List.getElem?_eq_getElem hi]
    simp [objName, List.getD_eq_getElem?_getD, List.getElem?_eq_getElem hi])]
  simp only [mst_, mst5_]
  rfl
theorem snapName_spec {f : Nat} (hf : 2 ≤ f) (Y : YldF) (x : Int) (h : AHeap) (nx : Nat) : callP Tryd.prog keepT f Y 27 [.int .i64 x] h nx = some (.str (snpName x), h.put (nx + 1) (some ⟨snpN.map AV.str, 1, true⟩), nx + 7 + pickK x 4) := by
  obtain ⟨f, rfl⟩ : ∃ m, f = m + 1 := ⟨f - 1, by omega⟩
  obtain ⟨b1, b2⟩ := pickL_bounds x 4 (by decide)
  rw [F27_eq]
  dsimp only
  rw [picked_spec (by omega) Y x 4 (by decide) (by decide)]
  simp only [mst_, mst5_]
  have hi : (pickL x 4).toNat < snpN.length := by show _ < 4; omega
  rw [if_pos (by omega), ld_at (put_same _ _ _) (show _ = some (AV.str (snpName x)) from by
    rw [Nat.zero_add, Nat.mul_one]
    show (snpN.map AV.str)[(pickL x 4).toNat]? = _
    rw [List.getElem?_map, List.getElem?_eq_getElem hi]
    simp [snpName, List.getD_eq_getElem?_getD, List.getElem?_eq_getElem hi])]
  simp only [mst_, mst5_]
  rfl

end Go.Proofs.YtahilinkfnchaaaDoor.T