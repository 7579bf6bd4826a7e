/- Desk: small functions: contracts, number, unhex, odd names. -/
import Derived.Test.YtahilinkfnchaaaDoorDA
set_option linter.unusedVariables false
set_option linter.unusedSimpArgs false
namespace Go.Proofs.YtahilinkfnchaaaDoor.T
open Go Go.RowKit Go.Proofs
set_option maxRecDepth 10000

theorem tl_beq (a b : ByteArray) : (a.toList == b.toList) = decide (a = b) := by
  rw [Lib.toList_data, Lib.toList_data]
  by_cases h : a = b
  · subst h; simp
  · rw [decide_eq_false h]
    exact beq_eq_false_iff_ne.2 fun e => h (dt_inj e)
theorem tl_if {α : Type} (a b : ByteArray) (x y : α) : (if (a.toList == b.toList) = true then x else y) = if a = b then x else y := by
  rw [tl_beq]; by_cases h : a = b <;> simp [h]
theorem ob_get {bs : List UInt8} {i : Nat} (hi : i < bs.length) : (ob bs)[i]'(by rw [ob_len]; exact hi) = (bs[i].toNat : Int) := by simp [ob]
theorem octs_ob : ∀ bs : List UInt8, octsOf (ints .u8 (ob bs)) = some bs
  | [] => rfl
  | b :: bs => by
    simp only [ints, ob, List.map_cons, octsOf]
    have h1 := octs_ob bs
    simp only [ints, ob] at h1
    rw [if_pos ⟨by omega, by have := b.toNat_lt; omega⟩, h1]
    simp
theorem strs_map : ∀ ss : List ByteArray, strsOf (ss.map AV.str) = some ss
  | [] => rfl
  | s :: ss => by simp [strsOf, strs_map ss]
theorem ob_append (a b : List UInt8) : ob (a ++ b) = ob a ++ ob b := by simp [ob]

theorem itoa_spec (n : Nat) (Y : YldF) {x : Int} (h1 : -9223372036854775808 ≤ x) (h2 : x ≤ 9223372036854775807) (h : AHeap) (nx : Nat) : callP Tryd.prog keepT (n + 1) Y 19 [.int .i64 x] h nx = some (.str (B (Lib.itoa x)), h, nx) := by
  rw [F19_eq]
  show orcItoa x h nx = _
  unfold orcItoa
  rw [if_pos ⟨h1, h2⟩]; rfl
theorem indexB_spec (n : Nat) (Y : YldF) (s : ByteArray) (c : UInt8) (h : AHeap) (nx : Nat) : callP Tryd.prog keepT (n + 1) Y 39 [.str s, .int .u8 ((UInt8.toNat c : Nat) : Int)] h nx = some (.int .i64 (Lib.indexByte s.data.toList c), h, nx) := by
  rw [F39_eq]
  show orcIndexB s _ h nx = _
  unfold orcIndexB
  rw [if_pos ⟨by omega, by have := c.toNat_lt; omega⟩]
  simp
theorem hex_spec (n : Nat) (Y : YldF) {h : AHeap} {nx m : Nat} {a : Option (Nat × Nat)} {bs : List UInt8} (s : Sl h m a (ob bs).length 1 (ints .u8 (ob bs))) (hl : bs.length ≤ 35184372088832) (c : Option Nat) : callP Tryd.prog keepT (n + 1) Y 20 [.slice a (ob bs).length c] h nx = some (.str (B (hexL bs)), h, nx) := by
  rw [F20_eq]
  show orcHex a _ h nx = _
  unfold orcHex
  obtain ⟨rd, e⟩ := s.src'
  rw [e, Option.bind_some, octs_ob, Option.bind_some, if_pos hl]; rfl
theorem join_spec (n : Nat) (Y : YldF) {h : AHeap} {nx m k : Nat} {a : Option (Nat × Nat)} {ss : List ByteArray} (s : Sl h m a k 1 (ss.map AV.str)) (hl : (joinW (ss.map (·.data.toList))).length ≤ 140737488355328) (hn : ss.length ≤ 140737488355328) (c : Option Nat) : callP Tryd.prog keepT (n + 1) Y 21 [.slice a k c, .str (ByteArray.mk #[32])] h nx = some (.str (B (joinW (ss.map (·.data.toList)))), h, nx) := by
  rw [F21_eq]
  show orcJoin a _ sp h nx = _
  unfold orcJoin
  obtain ⟨rd, e⟩ := s.src'
  rw [e, Option.bind_some, strs_map, Option.bind_some, joinB_words, if_pos ⟨hl, hn⟩]; rfl
theorem split_spec (n : Nat) (Y : YldF) {s : ByteArray} (hs : s.size < 4294967281) (h : AHeap) (nx : Nat) : callP Tryd.prog keepT (n + 1) Y 22 [.str s, .str (ByteArray.mk #[32])] h nx = some (.slice (some (nx, 0)) (wordsOf s).length (some (wordsOf s).length), h.put nx (some ⟨(wordsOf s).map AV.str, 1, true⟩), nx + 1) := by
  rw [F22_eq]
  show orcSplit s sp h nx = _
  unfold orcSplit
  have e := words_count s
  rw [if_pos ⟨by decide, hs, by rw [splitB_words]; simp [wordsOf, e]⟩, splitB_words, e]
  simp [wordsOf]

theorem number_spec {n : Nat} (hn : 2 ≤ n) (Y : YldF) {s : ByteArray} (hs : s.size ≤ 1000000000) (h : AHeap) (nx : Nat) : callP Tryd.prog keepT n Y 23 [.str s] h nx = some (.tuple [.int .i64 (numL s.data.toList).1, .bool (numL s.data.toList).2], h, nx + 20) := by
  obtain ⟨n, rfl⟩ : ∃ m, n = m + 2 := ⟨n - 2, by omega⟩
  rw [F23_eq, F38_eq]
  rw [show ∀ a b, orcK [8, 103] [.str s] a b = orcAtoi 103 s a b from fun _ _ => rfl]
  unfold orcAtoi numL
  rw [if_pos (by omega)]
  cases e : Lib.atoiAll s.data.toList with
  | ok v =>
    have hb := Lib.atoiAll_bounds e
    dsimp only
    simp only [mst_, mst5_]
    rw [show asNil AV.nilIface = some true from rfl]
    simp only [mst_, mst5_]
    rw [if_pos trivial, itoa_spec n Y hb.1 hb.2]
    simp only [mst_, mst5_]
    rw [tl_beq]
    by_cases q : Lib.itoa v = s.data.toList
    · rw [decide_eq_true q, decide_eq_true (by rw [q, B_of])]
    · rw [decide_eq_false q, decide_eq_false (fun z => q (by rw [← z, B_data]))]
  | range =>
    dsimp only
    simp only [mst_, mst5_]
    rw [show asNil (AV.iface 103 .bad) = some false from rfl]
    simp only [mst_, mst5_]
  | _ =>
    dsimp only
    simp only [mst_, mst5_]
    rw [show asNil (AV.iface 103 .bad) = some false from rfl]
    simp only [mst_, mst5_]

/-- A slice of one's own that holds bytes. -/
theorem OwnSl.byt {h : AHeap} {nx0 nx n : Nat} {a : Option (Nat × Nat)} {bs : List UInt8} (s : OwnSl h nx0 nx a n 1 (ints .u8 (ob bs))) (c : Option Nat) : Byt .u8 h nx (Old nx0) (.slice a n c) (ob bs) := by
  have hn : n = (ob bs).length := by have := s.1; simp [ints] at this; omega
  subst hn
  refine ⟨a, c, rfl, s.sl, fun hn p e q => ?_⟩
  rcases s.2 with ⟨rfl, _⟩ | ⟨i, rfl, hi, _⟩
  · cases e
  · obtain rfl := Option.some.inj e
    unfold Old at q; simp only at q; omega
theorem digs : (ByteArray.mk #[48, 49, 50, 51, 52, 53, 54, 55, 56, 57, 97, 98, 99, 100, 101, 102]).data.toList = hexD := rfl
theorem two_digits : ∀ a b : Fin 16, Go.bits .or .i64 ((a.val * 16 : Nat) : Int) ((b.val : Nat) : Int) = ((a.val * 16 + b.val : Nat) : Int) := by decide +kernel
theorem two_digits' {a b : Int} (ha : 0 ≤ a) (ha' : a < 16) (hb : 0 ≤ b) (hb' : b < 16) : wrapA .u8 (bits .or .i64 (wrapA .i64 (a * (2:Int) ^ min (Int.toNat 4) (IntKind.bits .i64))) b) = ((UInt8.ofNat (a.toNat * 16 + b.toNat)).toNat : Int) := by
  have h := two_digits ⟨a.toNat, by omega⟩ ⟨b.toNat, by omega⟩
  have e : (2:Int) ^ min (Int.toNat 4) (IntKind.bits .i64) = 16 := rfl
  have e1 : ((a.toNat * 16 : Nat) : Int) = a * 16 := by omega
  have e2 : ((b.toNat : Nat) : Int) = b := by omega
  simp only [e1, e2] at h
  rw [e, wA (by omega) (by omega), h, wrapA_def]
  show ((a.toNat * 16 + b.toNat : Nat) : Int) % 256 = _
  simp
theorem hexD_lt (c : UInt8) (h : ¬ Lib.indexByte hexD c < 0) : Lib.indexByte hexD c < 16 := by
  have := hex_back c
  simp only [decide_eq_false h, Bool.false_or, Bool.and_eq_true, decide_eq_true_eq] at this
  omega

theorem unhex_loop (m : Nat) (Y : YldF) (lf : Nat) (s : ByteArray) (hs : s.size ≤ 1000000000) (nx0 : Nat) : ∀ (k n0 i nx : Nat) (h : AHeap) (a : Option (Nat × Nat)) (c : Option Nat) (bs : List UInt8), s.size = i + 2 * k → bs.length ≤ i → k < n0 → nx0 ≤ nx → OwnSl h nx0 nx a bs.length 1 (ints .u8 (ob bs)) →
    ∃ h' nx' d, F24_L2 (callP Tryd.prog keepT (m + 1)) Y lf n0 s a bs.length c (i : Int) h nx = some (.tuple [d, .bool (unhL (s.data.toList.drop i)).isSome], h', nx') ∧ Ext h nx0 h' nx' ∧ nx ≤ nx' ∧
      (match unhL (s.data.toList.drop i) with | some r => Byt .u8 h' nx' (Old nx0) d (ob (bs ++ r)) | none => d = .slice none 0 none)
  | 0, n0 + 1, i, nx, h, a, c, bs, hk, _, _, h0, w => by
    have hd : s.data.toList.drop i = [] := List.drop_eq_nil_of_le (by have : s.data.toList.length = s.size := Array.length_toList; omega)
    rw [F24_L2_eq, if_neg (by simp; omega), hd]
    refine ⟨h, nx + 7, _, rfl, ⟨by omega, fun _ _ => rfl⟩, by omega, ?_⟩
    simp only [unhL, List.append_nil]
    exact (w.le (by omega)).byt c
  | k + 1, n0 + 1, i, nx, h, a, c, bs, hk, hbl, hn, h0, w => by
    have hlen : s.data.toList.length = s.size := Array.length_toList
    have e1 : s.data.toList.drop i = s.data.toList[i] :: s.data.toList[i + 1] :: s.data.toList.drop (i + 2) := by
      rw [List.drop_eq_getElem_cons (by omega), List.drop_eq_getElem_cons (i := i + 1) (by omega)]
    have g1 : s.data.toList[Int.toNat (i : Int)]? = some s.data.toList[i] := by rw [Int.toNat_natCast, List.getElem?_eq_getElem (by omega)]
    have g2 : s.data.toList[Int.toNat ((i + 1 : Nat) : Int)]? = some s.data.toList[i + 1] := by rw [Int.toNat_natCast, List.getElem?_eq_getElem (by omega)]
    rw [F24_L2_eq, if_pos (by simp; omega), if_pos (by omega), g1, e1]
    generalize s.data.toList[i] = x at *
    generalize s.data.toList[i + 1] = y at *
    simp only [mst_, mst5_]
    rw [indexB_spec, digs]
    simp only [mst_, mst5_]
    rw [wsucc (by omega), if_pos (by omega), g2]
    simp only [mst_, mst5_]
    rw [indexB_spec, digs]
    simp only [mst_, mst5_]
    rw [unhL]
    have no : ∀ z : Nat, nx ≤ z → ∃ h' nx' d, some (AV.tuple [.slice none 0 none, .bool false], h, z) = some (AV.tuple [d, .bool (none : Option (List UInt8)).isSome], h', nx') ∧ Ext h nx0 h' nx' ∧ nx ≤ nx' ∧ (match (none : Option (List UInt8)) with | some r => Byt .u8 h' nx' (Old nx0) d (ob (bs ++ r)) | none => d = .slice none 0 none) :=
      fun z hz => ⟨h, z, _, rfl, ⟨by omega, fun _ _ => rfl⟩, by omega, rfl⟩
    by_cases c1 : Lib.indexByte hexD x < 0
    · rw [if_pos (by simpa using c1), if_pos c1]; exact no _ (by omega)
    · rw [if_neg (by simpa using c1), if_neg c1]
      by_cases c2 : Lib.indexByte hexD y < 0
      · rw [if_pos (by simpa using c2), if_pos c2]; exact no _ (by omega)
      · rw [if_neg (by simpa using c2), if_neg c2, F24_J3_eq, two_digits' (by omega) (hexD_lt x c1) (by omega) (hexD_lt y c2)]
        dsimp only
        generalize hz : UInt8.ofNat ((Lib.indexByte hexD x).toNat * 16 + (Lib.indexByte hexD y).toNat) = z
        have hsrc : srcS (h.put (nx + 15 + 6 + 6) (some ⟨[AV.int .u8 (z.toNat : Int)], 1, true⟩)) (some (nx + 15 + 6 + 6, 0)) 1 1 = some (1, [AV.int .u8 (z.toNat : Int)], [nx + 15 + 6 + 6]) := by
          simp [srcS]
        rw [hsrc]
        simp only [mst_, mst5_]
        obtain ⟨e, f1, f2, f3, f4⟩ := w.push (c := c) (bytes := 1) (id := nx + 15 + 6 + 6) (id2 := nx + 15 + 6 + 7) (ws := [AV.int .u8 (z.toNat : Int)]) rfl (growOk_of (by omega) (by omega)) h0 (by omega) (by omega)
        rw [f1]
        simp only [mst_, mst5_]
        have hcell : ints .u8 (ob bs) ++ [AV.int .u8 (z.toNat : Int)] = ints .u8 (ob (bs ++ [z])) := by simp [ints, ob]
        rw [hcell] at f3
        rw [show wrapA .i64 ((i : Int) + 2) = ((i + 2 : Nat) : Int) by rw [wA (by omega) (by omega)]; omega, f2]
        have hl : bs.length + 1 = (bs ++ [z]).length := by simp
        rw [hl] at f3 ⊢
        obtain ⟨h', nx', d, g1, g2, g3, g4⟩ := unhex_loop m Y lf s hs nx0 k n0 (i + 2) (nx + 15 + 6 + 12) _ e.a e.c (bs ++ [z]) (by omega) (by simp; omega) (by omega) (by omega) (f3.le (by omega))
        refine ⟨h', nx', d, ?_, ⟨g2.1, fun j hj => (g2.2 j hj).trans (f4.2 j hj)⟩, by omega, ?_⟩
        · rw [g1]; cases unhL (s.data.toList.drop (i + 2)) <;> rfl
        · cases hu : unhL (s.data.toList.drop (i + 2)) with
          | none => rw [hu] at g4; exact g4
          | some r =>
            rw [hu] at g4
            simp only [Option.map_some]
            simpa using g4
theorem unhex_spec {n : Nat} (Y : YldF) {s : ByteArray} (hn : s.size + 3 ≤ n) (hs : s.size ≤ 1000000000) (h : AHeap) (nx : Nat) :
    ∃ h' nx' d, callP Tryd.prog keepT n Y 24 [.str s] h nx = some (.tuple [d, .bool (unhexL s.data.toList).isSome], h', nx') ∧ Ext h nx h' nx' ∧
      (match unhexL s.data.toList with | some r => Byt .u8 h' nx' (Old nx) d (ob r) | none => d = .slice none 0 none) := by
  obtain ⟨n, rfl⟩ : ∃ m, n = m + 2 := ⟨n - 2, by omega⟩
  have hlen : s.data.toList.length = s.size := Array.length_toList
  have htm : Int.tmod ((s.size : Nat) : Int) 2 = ((s.size : Nat) : Int) % 2 := Int.tmod_eq_emod_of_nonneg (by omega)
  rw [F24_eq, tl_if, tl_if, htm]
  unfold unhexL
  by_cases c1 : s.data.toList = [45]
  · rw [if_pos (by rw [← B_of s, c1]; rfl), if_pos c1]
    exact ⟨h, _, _, rfl, ⟨by omega, fun _ _ => rfl⟩, Byt.none _ _ _ _ _⟩
  · rw [if_neg (fun e => c1 (by rw [e])), if_neg c1]
    by_cases c2 : s.data.toList = []
    · rw [if_pos (by rw [← B_of s, c2]; rfl), if_pos c2]
      exact ⟨h, _, _, rfl, ⟨by omega, fun _ _ => rfl⟩, rfl⟩
    · rw [if_neg (fun e => c2 (by rw [e])), if_neg c2]
      by_cases c3 : s.data.toList.length % 2 ≠ 0
      · rw [if_pos (by rw [bne_iff_ne]; omega), if_pos c3]
        exact ⟨h, _, _, rfl, ⟨by omega, fun _ _ => rfl⟩, rfl⟩
      · rw [if_neg (by rw [bne_iff_ne]; omega), if_neg c3, F24_J1_eq]
        obtain ⟨h', nx', d, g1, g2, g3, g4⟩ := unhex_loop n Y (n + 1) s hs nx (s.size / 2) (n + 1) 0 (nx + 12 + 2) h none none [] (by omega) (by simp) (by omega) (by omega) (OwnSl.nil _ _ _ _)
        rw [List.drop_zero] at g1 g4
        refine ⟨h', nx', d, g1, g2, ?_⟩
        cases hu : unhL s.data.toList with
        | none => rw [hu] at g4; exact g4
        | some r => rw [hu] at g4; simpa using g4

/-! ### odd names -/
def doneB : ByteArray := ByteArray.mk #[100, 111, 110, 101]
def oddN (s : ByteArray) : Bool := !goodName s || decide (s = doneB)
theorem odd_spec {n : Nat} (Y : YldF) {s : ByteArray} (hn : s.size + 3 ≤ n) (hs : s.size ≤ 1000000000) (h : AHeap) (nx : Nat) : ∃ h' nx', callP Tryd.prog keepT n Y 16 [.str s] h nx = some (.bool (oddN s), h', nx') ∧ Ext h nx h' nx' := by
  obtain ⟨n, rfl⟩ : ∃ m, n = m + 1 := ⟨n - 1, by omega⟩
  rw [F16_eq]
  obtain ⟨h', nx', e, x⟩ := name_spec (n := n) Y (by omega) hs h (nx + 9)
  rw [e]
  simp only [mst_, mst5_]
  refine ⟨h', nx', ?_, x.from (by omega)⟩
  unfold oddN
  cases goodName s
  · rw [if_pos (show (!false) = true from rfl)]; rfl
  · rw [if_neg (by simp), tl_beq]; rfl
theorem odd_loop (m : Nat) (Y : YldF) (lf : Nat) (a : Option (Nat × Nat)) (c : Option Nat) (ns : List ByteArray) (hm : ∀ x ∈ ns, x.size + 3 ≤ m ∧ x.size ≤ 1000000000) (hl : ns.length ≤ 1000000000) (nx1 : Nat) : ∀ (k n0 i nx : Nat) (h : AHeap), ns.length = i + k → k < n0 → nx1 ≤ nx → Sl h nx1 a ns.length 1 (ns.map AV.str) →
    ∃ h' nx' j, F31_L1 (callP Tryd.prog keepT m) Y lf n0 a ns.length c (.fn 16 [] []) (ns.length : Int) (i : Int) h nx = some (.int .i64 j, h', nx') ∧ Ext h nx h' nx' ∧ decide (j ≥ 0) = (ns.drop i).any oddN
  | 0, n0 + 1, i, nx, h, hk, _, _, _ => by
    rw [F31_L1_eq, if_neg (by simp; omega), List.drop_eq_nil_of_le (by omega)]
    exact ⟨h, nx + 2, -1, rfl, ⟨by omega, fun _ _ => rfl⟩, by simp⟩
  | k + 1, n0 + 1, i, nx, h, hk, hn, h1, w => by
    have hi : i < ns.length := by omega
    have hg : (ns.map AV.str)[Int.toNat (i : Int) * 1]? = some (.str ns[i]) := by
      rw [Int.toNat_natCast, Nat.mul_one, List.getElem?_map, List.getElem?_eq_getElem hi]; rfl
    rw [F31_L1_eq, if_pos (by simp; omega), w.read0 (by omega) (by omega) (by omega) hg]
    simp only [mst_, mst5_]
    rw [show asCal (AV.fn 16 [] []) = some (.fn 16, [], []) from rfl]
    simp only [mst_, mst5_]
    obtain ⟨h1', n1, e, x⟩ := odd_spec (n := m) Y (hm _ (List.getElem_mem hi)).1 (hm _ (List.getElem_mem hi)).2 h (nx + 9)
    rw [show callC (callP Tryd.prog keepT m Y) Y (.fn 16) = callP Tryd.prog keepT m Y 16 from rfl, List.nil_append, List.append_nil, e]
    simp only [mst_, mst5_]
    rw [List.drop_eq_getElem_cons hi, List.any_cons]
    cases ho : oddN ns[i]
    · rw [if_neg (by simp), wsucc (by omega)]
      obtain ⟨h2, n2, j, g1, g2, g3⟩ := odd_loop m Y lf a c ns hm hl nx1 k n0 (i + 1) (n1 + 2) h1' (by omega) (by omega) (by have := x.1; omega) (w.ext ⟨by omega, fun q hq => x.2 q (by omega)⟩)
      exact ⟨h2, n2, j, g1, (x.from (by omega)).trans (g2.from (by omega)), by simpa using g3⟩
    · rw [if_pos rfl]
      exact ⟨h1', n1 + 2, i, rfl, (x.from (by omega)).le (by omega), by simp⟩
theorem odds_spec {n : Nat} (Y : YldF) {a : Option (Nat × Nat)} (c : Option Nat) {ns : List ByteArray} (hm : ∀ x ∈ ns, x.size + 6 ≤ n ∧ x.size ≤ 1000000000) (hl : ns.length ≤ 1000000000) (hn : ns.length + 6 ≤ n) {h : AHeap} {nx : Nat} (w : Sl h nx a ns.length 1 (ns.map AV.str)) :
    ∃ h' nx', callP Tryd.prog keepT n Y 18 [.slice a ns.length c, .fn 16 [] []] h nx = some (.bool (ns.any oddN), h', nx') ∧ Ext h nx h' nx' := by
  obtain ⟨n, rfl⟩ : ∃ m, n = m + 2 := ⟨n - 2, by omega⟩
  rw [F18_eq, F31_eq]
  obtain ⟨h', nx', j, g1, g2, g3⟩ := odd_loop n Y n a c ns (fun x hx => ⟨by have := (hm x hx).1; omega, (hm x hx).2⟩) hl nx ns.length n 0 (nx + 6 + 4) h (by omega) (by omega) (by omega) w
  rw [show ((0 : Nat) : Int) = 0 from rfl] at g1
  rw [g1]
  simp only [mst_, mst5_]
  rw [List.drop_zero] at g3
  rw [g3]
  exact ⟨h', nx', rfl, g2.from (by omega)⟩
end Go.Proofs.YtahilinkfnchaaaDoor.T
