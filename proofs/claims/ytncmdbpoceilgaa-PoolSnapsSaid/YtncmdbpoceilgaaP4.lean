import Derived.Test.YtncmdbpoceilgaaTK
import Derived.Test.YtncmdbpoceilgaaPO
set_option linter.unusedVariables false
set_option linter.unusedSimpArgs false
/- Pools: maps as lists, what is told, small functions. -/
namespace Go.Proofs.Ytncmdbpoceilgaa.T
open Go Go.RowKit Go.Proofs
set_option maxRecDepth 10000

/-! ### maps as lists -/
variable {β : Type}
def getO (k : ByteArray) : List (ByteArray × β) → Option β
  | [] => none
  | p :: l => if p.1 = k then some p.2 else getO k l
def setO (k : ByteArray) (v : β) : List (ByteArray × β) → List (ByteArray × β)
  | [] => [(k, v)]
  | p :: l => if p.1 = k then (k, v) :: l else p :: setO k v l
def delO (k : ByteArray) : List (ByteArray × β) → List (ByteArray × β)
  | [] => []
  | p :: l => if p.1 = k then l else p :: delO k l
/-- An entry in memory. -/
def Ent (R : β → AV → Prop) (x : ByteArray × β) (c : AV) : Prop := ∃ v, c = .tuple [.str x.1, v] ∧ R x.2 v

theorem find_ent {R : β → AV → Prop} (k : ByteArray) : ∀ {l : List (ByteArray × β)} {cs : List AV} (_ : All2 (Ent R) l cs) (i : Nat),
    (getO k l = none ∧ findE k cs i = some none ∧ (∀ x, setO k x l = l ++ [(k, x)]) ∧ delO k l = l) ∨
    (∃ x j v, getO k l = some x ∧ findE k cs i = some (some (i + j, v)) ∧ R x v ∧ (∀ x' y, R x' y → All2 (Ent R) (setO k x' l) (cs.set j (.tuple [.str k, y]))) ∧ All2 (Ent R) (delO k l) (cs.eraseIdx j))
  | [], cs, h, i => by
    simp only [All2] at h; subst h
    exact .inl ⟨rfl, rfl, fun x => rfl, rfl⟩
  | p :: l, _, ⟨c, cs, e, ⟨v, hc, hr⟩, h⟩, i => by
    subst e hc
    by_cases q : p.1 = k
    · refine .inr ⟨p.2, 0, v, by simp [getO, q], by simp [findE, q], hr, fun x' y hy => ?_, by simpa [delO, q] using h⟩
      simp only [setO, q, if_true, List.set_cons_zero]
      exact ⟨_, _, rfl, ⟨y, rfl, hy⟩, h⟩
    · rcases find_ent k h (i + 1) with ⟨h1, h2, h3, h4⟩ | ⟨x, j, v', h1, h2, h3, h4, h5⟩
      · exact .inl ⟨by simp [getO, q, h1], by simp [findE, q, h2], fun x => by simp [setO, q, h3], by simp [delO, q, h4]⟩
      · refine .inr ⟨x, j + 1, v', by simp [getO, q, h1], by simp [findE, q, h2]; omega, h3, fun x' y hy => ?_, ?_⟩
        · simp only [setO, q, if_false, List.set_cons_succ]
          exact ⟨_, _, rfl, ⟨v, rfl, hr⟩, h4 x' y hy⟩
        · simp only [delO, q, if_false, List.eraseIdx_cons_succ]
          exact ⟨_, _, rfl, ⟨v, rfl, hr⟩, h5⟩
theorem upd_ent {R : β → AV → Prop} {k : ByteArray} {l : List (ByteArray × β)} {cs : List AV} (h : All2 (Ent R) l cs) {x : β} {v : AV} (hr : R x v) : ∃ cs', updE k v cs = some cs' ∧ All2 (Ent R) (setO k x l) cs' := by
  rcases find_ent k h 0 with ⟨h1, h2, h3, _⟩ | ⟨x0, j, v', h1, h2, h3, h4, _⟩
  · exact ⟨cs ++ [.tuple [.str k, v]], by simp [updE, h2], by rw [h3]; exact h.append (All2.one ⟨v, rfl, hr⟩)⟩
  · exact ⟨cs.set j (.tuple [.str k, v]), by simp [updE, h2], h4 x v hr⟩
theorem del_ent {R : β → AV → Prop} {k : ByteArray} {l : List (ByteArray × β)} {cs : List AV} (h : All2 (Ent R) l cs) : ∃ cs', delE k cs = some cs' ∧ All2 (Ent R) (delO k l) cs' := by
  rcases find_ent k h 0 with ⟨h1, h2, _, h3⟩ | ⟨x0, j, v', h1, h2, h3, _, h4⟩
  · exact ⟨cs, by simp [delE, h2], by rw [h3]; exact h⟩
  · exact ⟨cs.eraseIdx j, by simp [delE, h2], h4⟩
theorem keys_ent {R : β → AV → Prop} : ∀ {l : List (ByteArray × β)} {cs : List AV}, All2 (Ent R) l cs → keysE cs = some (l.map (·.1))
  | [], cs, h => by simp only [All2] at h; subst h; rfl
  | p :: l, _, ⟨c, cs, e, ⟨v, hc, hr⟩, h⟩ => by subst e hc; simp [keysE, keys_ent h]

theorem getO_mem {k : ByteArray} {x : β} : ∀ {l : List (ByteArray × β)}, getO k l = some x → (k, x) ∈ l
  | [], h => by cases h
  | p :: l, h => by
    unfold getO at h
    split at h
    · rename_i q; subst q; obtain rfl := Option.some.inj h; exact List.mem_cons_self
    · exact List.mem_cons_of_mem _ (getO_mem h)
/-! ### steps -/
theorem asAgg_5 (a b c d e : AV) : asAgg 5 (.agg [a, b, c, d, e]) = some [a, b, c, d, e] := asAgg_mk (by simp)
theorem asAgg_6 (a b c d e f : AV) : asAgg 6 (.agg [a, b, c, d, e, f]) = some [a, b, c, d, e, f] := asAgg_mk (by simp)
theorem asAgg_8 (a b c d e f g i : AV) : asAgg 8 (.agg [a, b, c, d, e, f, g, i]) = some [a, b, c, d, e, f, g, i] := asAgg_mk (by simp)
theorem getD_4 (a b c d e f : AV) (l : List AV) : (a :: b :: c :: d :: e :: l).getD 4 f = e := by simp
theorem getD_5 (a b c d e f g : AV) (l : List AV) : (a :: b :: c :: d :: e :: f :: l).getD 5 g = f := by simp
theorem getD_6 (a b c d e f g i : AV) (l : List AV) : (a :: b :: c :: d :: e :: f :: g :: l).getD 6 i = g := by simp
theorem getD_7 (a b c d e f g i j : AV) (l : List AV) : (a :: b :: c :: d :: e :: f :: g :: i :: l).getD 7 j = i := by simp
theorem asMp_mk (r : Option Nat) : asMp (.mapv r) = some r := by simp [asMp]
theorem mst5_ : (∀ a b c d e, asAgg 5 (.agg [a, b, c, d, e]) = some [a, b, c, d, e]) ∧ (∀ a b c d e f, asAgg 6 (.agg [a, b, c, d, e, f]) = some [a, b, c, d, e, f]) ∧ (∀ a b c d e f g i, asAgg 8 (.agg [a, b, c, d, e, f, g, i]) = some [a, b, c, d, e, f, g, i]) ∧
    (∀ (a b c d e f : AV) (l : List AV), (a :: b :: c :: d :: e :: l).getD 4 f = e) ∧ (∀ (a b c d e f g : AV) (l : List AV), (a :: b :: c :: d :: e :: f :: l).getD 5 g = f) ∧ (∀ (a b c d e f g i : AV) (l : List AV), (a :: b :: c :: d :: e :: f :: g :: l).getD 6 i = g) ∧
    (∀ (a b c d e f g i j : AV) (l : List AV), (a :: b :: c :: d :: e :: f :: g :: i :: l).getD 7 j = i) ∧ (∀ r, asMp (.mapv r) = some r) := ⟨asAgg_5, asAgg_6, asAgg_8, getD_4, getD_5, getD_6, getD_7, asMp_mk⟩

/-- What is told is laid into the result's cell and read from it: behind a call. -/
theorem tail5 {c : Option (AV × AHeap × Nat)} {i : Nat} {h1 : AHeap} {m1 : Nat} {l : List AV} {a z : Int} {b : Bool} {d1 e1 : Option (Nat × Nat)} {d2 e2 : Nat} {d3 e3 : Option Nat} (hc : c = some (.agg [.int .i64 a, .bool b, .int .i64 z, .slice d1 d2 d3, .slice e1 e2 e3], h1, m1)) (hb : h1 i = some ⟨l, 5, true⟩) (hl : l.length = 5) :
    (c.bind fun r5 => (asAgg 5 r5.1).bind fun d6 =>
      (asI .i64 (d6.getD 0 .bad)).bind fun n7 =>
      (asB (d6.getD 1 .bad)).bind fun t8 =>
      (asI .i64 (d6.getD 2 .bad)).bind fun n9 =>
      (asSl (d6.getD 3 .bad)).bind fun s10 =>
      (asSl (d6.getD 4 .bad)).bind fun s11 =>
      (stA r5.2.1 i 0 (.agg [(.int .i64 n7), (.bool t8), (.int .i64 n9), (.slice s10.1 s10.2.1 s10.2.2), (.slice s11.1 s11.2.1 s11.2.2)]) 5).bind fun b12 =>
      (ldR (AHeap.put r5.2.1 i (some b12)) i 0 5).bind fun l14 =>
      (asAgg 5 (AV.agg l14)).bind fun d15 =>
      (asI .i64 (d15.getD 0 .bad)).bind fun n16 =>
      (asB (d15.getD 1 .bad)).bind fun t17 =>
      (asI .i64 (d15.getD 2 .bad)).bind fun n18 =>
      (asSl (d15.getD 3 .bad)).bind fun s19 =>
      (asSl (d15.getD 4 .bad)).bind fun s20 =>
      some ((AV.agg [(.int .i64 n16), (.bool t17), (.int .i64 n18), (.slice s19.1 s19.2.1 s19.2.2), (.slice s20.1 s20.2.1 s20.2.2)]), AHeap.put r5.2.1 i (some b12), r5.2.2)) =
    some (AV.agg [.int .i64 a, .bool b, .int .i64 z, .slice d1 d2 d3, .slice e1 e2 e3], h1.put i (some ⟨[.int .i64 a, .bool b, .int .i64 z, .slice d1 d2 d3, .slice e1 e2 e3], 5, true⟩), m1) := by
  subst hc
  simp only [mst_, mst5_]
  rw [st_all hb (by simp) (by simp [hl]) (by simp [allOne, AV.one])]
  rw [ldr_all (put_same _ _ _) (by simp)]
  simp only [mst_, mst5_]
/-- The same, of cells that are there. -/
theorem tail5l {i : Nat} {h1 : AHeap} {m1 : Nat} {l : List AV} {a z : Int} {b : Bool} {d1 e1 : Option (Nat × Nat)} {d2 e2 : Nat} {d3 e3 : Option Nat} (hb : h1 i = some ⟨l, 5, true⟩) (hl : l.length = 5) :
    ((stA h1 i 0 (.agg [.int .i64 a, .bool b, .int .i64 z, .slice d1 d2 d3, .slice e1 e2 e3]) 5).bind fun b12 =>
      (ldR (AHeap.put h1 i (some b12)) i 0 5).bind fun l14 =>
      (asAgg 5 (AV.agg l14)).bind fun d15 =>
      (asI .i64 (d15.getD 0 .bad)).bind fun n16 =>
      (asB (d15.getD 1 .bad)).bind fun t17 =>
      (asI .i64 (d15.getD 2 .bad)).bind fun n18 =>
      (asSl (d15.getD 3 .bad)).bind fun s19 =>
      (asSl (d15.getD 4 .bad)).bind fun s20 =>
      some ((AV.agg [(.int .i64 n16), (.bool t17), (.int .i64 n18), (.slice s19.1 s19.2.1 s19.2.2), (.slice s20.1 s20.2.1 s20.2.2)]), AHeap.put h1 i (some b12), m1)) =
    some (AV.agg [.int .i64 a, .bool b, .int .i64 z, .slice d1 d2 d3, .slice e1 e2 e3], h1.put i (some ⟨[.int .i64 a, .bool b, .int .i64 z, .slice d1 d2 d3, .slice e1 e2 e3], 5, true⟩), m1) := by
  rw [st_all hb (by simp) (by simp [hl]) (by simp [allOne, AV.one])]
  rw [ldr_all (put_same _ _ _) (by simp)]
  simp only [mst_, mst5_]

/-- no -/
theorem no_eq (n : Nat) (Y : YldF) (e : Int) (h : AHeap) (nx : Nat) : callP Try.prog keepT (n + 1) Y 23 [.int .i64 e] h nx =
    some (.agg [.int .i64 e, .bool false, .int .i64 0, .slice none 0 none, .slice none 0 none], h.put nx (some ⟨[.int .i64 e, .bool false, .int .i64 0, .slice none 0 none, .slice none 0 none], 5, true⟩), nx + 4) := by
  rw [F23_eq]
  dsimp only
  rw [tail5l (l := [.int .i64 0, .bool false, .int .i64 0, .slice none 0 none, .slice none 0 none]) (put_same _ _ _) rfl, put_put]

/-! ### Name -/
def okByte (b : Int) : Bool := (decide (97 ≤ b) && decide (b ≤ 122)) || (decide (48 ≤ b) && decide (b ≤ 57))
def byts (s : ByteArray) : List Int := s.data.toList.map fun b => (b.toNat : Int)
def goodName (s : ByteArray) : Bool := (byts s).all okByte && decide (1 ≤ s.size) && decide (s.size ≤ 8)
theorem byts_len (s : ByteArray) : (byts s).length = s.size := by unfold byts; rw [List.length_map]; exact Array.length_toList
theorem bytesA_ints (s : ByteArray) : bytesA s = ints .u8 (byts s) := by simp [bytesA, ints, byts]

theorem name_loop (call : YldF → CallF) (Y : YldF) (lf : Nat) (s : ByteArray) (hs : s.size ≤ 1000) (px : Nat) (h : AHeap) (hp : h px = some ⟨bytesA s, 1, true⟩) : ∀ (k n0 i nx : Nat), s.size = i + k → k < n0 → 
    ∃ nx', F28_L1 call Y lf n0 s (some (px, 0)) s.size none (s.size : Int) (i : Int) h nx = some (.bool (((byts s).drop i).all okByte && decide (1 ≤ s.size) && decide (s.size ≤ 8)), h, nx') ∧ nx ≤ nx'
  | 0, n0 + 1, i, nx, hk, _ => by
    rw [F28_L1_eq, if_neg (by simp; omega), show (byts s).drop i = [] from List.drop_eq_nil_of_le (by rw [byts_len]; omega)]
    by_cases c : 1 ≤ s.size
    · rw [if_pos (by simp; omega)]
      exact ⟨nx + 10, by simp [c]; omega, by omega⟩
    · rw [if_neg (by simp; omega)]
      exact ⟨nx + 10, by simp [c], by omega⟩
  | k + 1, n0 + 1, i, nx, hk, hn => by
    have hi : i < (byts s).length := by rw [byts_len]; omega
    have hd : (byts s).drop i = (byts s)[i] :: (byts s).drop (i + 1) := List.drop_eq_getElem_cons hi
    have hget : (bytesA s)[0 + Int.toNat (i : Int) * 1]? = some (.int .u8 (byts s)[i]) := by
      rw [bytesA_ints, Int.toNat_natCast, Nat.zero_add]; exact ints_get hi
    rw [F28_L1_eq, if_pos (by simp; omega), some_bind, if_pos (by omega), ld_at hp hget]
    simp only [mst_, mst5_]
    rw [hd, List.all_cons]
    generalize hb : (byts s)[i] = b at *
    have go : ∀ nx, nx ≤ nx + 20 → okByte b = true → ∃ nx', F28_L1 call Y lf n0 s (some (px, 0)) s.size none (s.size : Int) (wrapA .i64 ((i : Int) + 1)) h (nx + 20) = some (.bool ((okByte b && ((byts s).drop (i + 1)).all okByte) && decide (1 ≤ s.size) && decide (s.size ≤ 8)), h, nx') ∧ nx ≤ nx' := fun nx _ ho => by
      rw [wsucc (by omega), ho, Bool.true_and]
      obtain ⟨nx', e, l⟩ := name_loop call Y lf s hs px h hp k n0 (i + 1) (nx + 20) (by omega) (by omega)
      exact ⟨nx', e, by omega⟩
    have no : ∀ nx, okByte b = false → ∃ nx', some ((AV.bool false), h, nx + 19) = some (.bool ((okByte b && ((byts s).drop (i + 1)).all okByte) && decide (1 ≤ s.size) && decide (s.size ≤ 8)), h, nx') ∧ nx ≤ nx' := fun nx ho => ⟨nx + 19, by rw [ho]; simp, by omega⟩
    by_cases c1 : b < 97
    · rw [if_pos (by simpa using c1)]
      by_cases c2 : b < 48
      · rw [if_pos (by simpa using c2)]; exact no nx (by simp [okByte]; omega)
      · rw [if_neg (by simpa using c2)]
        by_cases c3 : b > 57
        · rw [if_pos (by simpa using c3)]; exact no nx (by simp [okByte]; omega)
        · rw [if_neg (by simpa using c3)]; exact go nx (by omega) (by simp [okByte]; omega)
    · rw [if_neg (by simpa using c1)]
      by_cases c2 : b > 122
      · rw [if_pos (by simpa using c2), if_neg (by simp; omega), if_pos (by simp; omega)]; exact no nx (by simp [okByte]; omega)
      · rw [if_neg (by simpa using c2)]; exact go nx (by omega) (by simp [okByte]; omega)
theorem name_spec {n : Nat} (hn : 1010 ≤ n) (Y : YldF) {s : ByteArray} (hs : s.size ≤ 1000) (h : AHeap) (nx : Nat) : ∃ h' nx', callP Try.prog keepT n Y 28 [.str s] h nx = some (.bool (goodName s), h', nx') ∧ Ext h nx h' nx' := by
  obtain ⟨n, rfl⟩ : ∃ m, n = m + 1 := ⟨n - 1, by omega⟩
  rw [F28_eq]
  dsimp only
  obtain ⟨nx', e, l⟩ := name_loop (callP Try.prog keepT n) Y n s hs (nx + 2) _ (put_same h (nx + 2) (some ⟨bytesA s, 1, true⟩)) s.size n 0 (nx + 5) (by omega) (by omega)
  exact ⟨_, nx', e, (Ext.refl h nx).put (by omega) (by omega)⟩
end Go.Proofs.Ytncmdbpoceilgaa.T

/- Pools: bytes of objects. -/
namespace Go.Proofs.Ytncmdbpoceilgaa.T
open Go Go.RowKit Go.Proofs
set_option maxRecDepth 10000

theorem splice_ints {k : IntKind} (xs bs : List Int) (o : Nat) : splice (ints k xs) o (ints k bs) = ints k (xs.take o ++ bs ++ xs.drop (o + bs.length)) := by
  simp [splice, ints]
theorem take_ints {k : IntKind} (xs : List Int) (n : Nat) : (ints k xs).take n = ints k (xs.take n) := by simp [ints]
/-- A copy of bytes into a block of one's own. -/
theorem cop_into {h : AHeap} {nx id o n : Nat} {xs bs : List Int} {c : Option (Nat × Nat)} (hb : h id = some ⟨ints .u8 xs, 1, true⟩) (s : Sl h nx c bs.length 1 (ints .u8 bs)) (ho : o + min bs.length n ≤ xs.length) :
    ∃ q, copD h (some (id, o)) n c bs.length 1 = some q ∧ (h.puts q.2.1) id = some ⟨ints .u8 (xs.take o ++ bs.take n ++ xs.drop (o + min bs.length n)), 1, true⟩ ∧ ∀ i, i ≠ id → (h.puts q.2.1) i = h i := by
  by_cases h0 : min bs.length n = 0
  · refine ⟨(0, [], []), by unfold copD; rw [if_pos h0], ?_, fun i _ => rfl⟩
    rw [puts_nil, hb, h0]
    have : bs.take n = [] := by
      rcases Nat.min_eq_zero_iff.1 h0 with e | e
      · rw [List.length_eq_zero_iff.1 e, List.take_nil]
      · rw [e]; rfl
    rw [this, List.append_nil, Nat.add_zero, List.take_append_drop]
  · obtain ⟨p, b, rfl, _, e3, e4, e5, e6⟩ := s.2 0 (by omega)
    have hsrc : (b.cells.drop p.2).take (min bs.length n * 1) = ints .u8 (bs.take n) := by
      apply List.ext_getElem?
      intro q
      rw [List.getElem?_take]
      by_cases hq : q < min bs.length n * 1
      · rw [if_pos hq, List.getElem?_drop, e6 q (by omega), ← take_ints, List.getElem?_take, if_pos (by omega)]
      · rw [if_neg hq, List.getElem?_eq_none (by simp [ints]; omega)]
    refine ⟨(min bs.length n, [(id, some ⟨splice (ints .u8 xs) o (ints .u8 (bs.take n)), 1, true⟩)], [id, p.1]), ?_, ?_, fun i hi => ?_⟩
    · unfold copD
      rw [if_neg h0, some_bind, some_bind, hb, some_bind, e3, some_bind, if_pos (by simp [e4, ints]; omega), hsrc]
    · simp only [puts_cons, puts_nil]
      rw [put_same]
      rw [splice_ints]
      simp only [List.length_take]
      rw [Nat.min_comm n bs.length]
    · simp only [puts_cons, puts_nil]
      rw [put_ne hi]

def resizeP (bs : List Int) (n : Nat) : List Int := bs.take n ++ List.replicate (n - bs.length) 0
def wideP (bs : List Int) (n : Nat) : List Int := bs ++ List.replicate (n - bs.length) 0
def writeP (bs : List Int) (o : Nat) (d : List Int) : List Int := (wideP bs (o + d.length)).take o ++ d ++ (wideP bs (o + d.length)).drop (o + d.length)
theorem resizeP_len (bs : List Int) (n : Nat) : (resizeP bs n).length = n := by simp [resizeP]; omega
theorem wideP_len (bs : List Int) (n : Nat) : (wideP bs n).length = max bs.length n := by simp [wideP]; omega
theorem writeP_len (bs : List Int) (o : Nat) (d : List Int) : (writeP bs o d).length = max bs.length (o + d.length) := by
  simp [writeP, wideP_len]; omega
theorem made_ints (n : Nat) : madeA [AV.int .u8 0] (n * 1) = ints .u8 (List.replicate n 0) := by simp [madeA, ints]

/-- What a slice of a block holds, wholly. -/
theorem Sl.block {h : AHeap} {nx id : Nat} {bs : List Int} (hb : h id = some ⟨ints .u8 bs, 1, true⟩) (hid : id < nx) : Sl h nx (some (id, 0)) bs.length 1 (ints .u8 bs) :=
  ⟨by simp [ints], fun j hj => ⟨(id, 0), _, rfl, hid, hb, rfl, by simp [ints], fun q hq => by simp⟩⟩

/-- Older than n. -/
def Old (n : Nat) : Nat → Prop := fun i => i < n
theorem Byt.block {h : AHeap} {nx n0 id : Nat} {bs : List Int} (c : Option Nat) (hb : h id = some ⟨ints .u8 bs, 1, true⟩) (hid : id < nx) (h0 : n0 ≤ id) : Byt .u8 h nx (Old n0) (.slice (some (id, 0)) bs.length c) bs :=
  ⟨_, _, rfl, Sl.block hb hid, fun _ p e q => by
    obtain rfl := Option.some.inj e
    unfold Old at q; simp only at q; omega⟩
theorem Byt.none (h : AHeap) (nx : Nat) (A : Nat → Prop) (a : Option (Nat × Nat)) (c : Option Nat) : Byt .u8 h nx A (.slice a 0 c) [] := ⟨a, c, rfl, ⟨by simp [ints], fun j hj => by simp at hj⟩, Av.none⟩

/-- Resize -/
theorem resize_spec (n : Nat) (Y : YldF) {h : AHeap} {nx : Nat} {a : Option (Nat × Nat)} (c : Option Nat) {bs : List Int} (s : Sl h nx a bs.length 1 (ints .u8 bs)) {k : Nat} (hk : k ≤ 1000000) :
    ∃ v h' nx', callP Try.prog keepT (n + 1) Y 78 [.slice a bs.length c, .int .i64 (k : Int)] h nx = some (.tuple [v, .int .i64 0], h', nx') ∧ Ext h nx h' nx' ∧ Byt .u8 h' nx' (Old nx) v (resizeP bs k) := by
  rw [F78_eq, if_pos (by simp; omega), Int.toNat_natCast, made_ints]
  have hb := put_same h (nx + 3) (some ⟨ints .u8 (List.replicate k 0), 1, true⟩)
  have x1 : Ext h nx (h.put (nx + 3) (some ⟨ints .u8 (List.replicate k 0), 1, true⟩)) (nx + 4) := (Ext.refl h nx).put (by omega) (by omega)
  obtain ⟨q, e1, e2, e3⟩ := cop_into (o := 0) (n := k) hb (s.ext x1) (by simp; omega)
  dsimp only
  rw [e1, some_bind]
  have e4 : (List.replicate k (0 : Int)).take 0 ++ bs.take k ++ (List.replicate k (0 : Int)).drop (0 + min bs.length k) = resizeP bs k := by
    simp [resizeP]; omega
  rw [e4] at e2
  have hl := resizeP_len bs k
  refine ⟨_, _, nx + 11, rfl, ⟨by omega, fun i hi => ?_⟩, ?_⟩
  · rw [e3 i (by omega)]; exact x1.2 i hi
  · have := Byt.block (n0 := nx) (nx := nx + 11) (some k) e2 (by omega) (by omega)
    rw [hl] at this; exact this

/-- Write -/
theorem write_spec (n : Nat) (Y : YldF) {h : AHeap} {nx : Nat} {a a2 : Option (Nat × Nat)} (c c2 : Option Nat) {bs d : List Int} (s : Sl h nx a bs.length 1 (ints .u8 bs)) (s2 : Sl h nx a2 d.length 1 (ints .u8 d)) {o : Nat} (ho : o ≤ 1000000) (hd : d.length ≤ 1000000) (hl : bs.length ≤ 1000000) :
    ∃ v h' nx', callP Try.prog keepT (n + 1) Y 80 [.slice a bs.length c, .int .i64 (o : Int), .slice a2 d.length c2] h nx = some (.tuple [v, .int .i64 0], h', nx') ∧ Ext h nx h' nx' ∧ Byt .u8 h' nx' (Old nx) v (writeP bs o d) := by
  have hw : wrapA .i64 ((o : Int) + ((d.length : Nat) : Int)) = ((o + d.length : Nat) : Int) := by rw [wA (by omega) (by omega)]; omega
  have hX : (if ((o + d.length : Nat) : Int) > ((bs.length : Nat) : Int) then ((o + d.length : Nat) : Int) else ((bs.length : Nat) : Int)) = ((max bs.length (o + d.length) : Nat) : Int) := by split <;> omega
  obtain ⟨N, hN⟩ : ∃ N, N = max bs.length (o + d.length) := ⟨_, rfl⟩
  rw [← hN] at hX
  rw [F80_eq, hw, hX, if_pos (by simp; omega), Int.toNat_natCast, made_ints]
  have hb := put_same h (nx + 9) (some ⟨ints .u8 (List.replicate N 0), 1, true⟩)
  have x1 : Ext h nx (h.put (nx + 9) (some ⟨ints .u8 (List.replicate N 0), 1, true⟩)) (nx + 10) := (Ext.refl h nx).put (by omega) (by omega)
  obtain ⟨q, e1, e2, e3⟩ := cop_into (o := 0) (n := N) hb (s.ext x1) (by simp; omega)
  dsimp only
  rw [e1, some_bind]
  have e4 : (List.replicate N (0 : Int)).take 0 ++ bs.take N ++ (List.replicate N (0 : Int)).drop (0 + min bs.length N) = wideP bs (o + d.length) := by
    have : min bs.length N = bs.length := by omega
    simp only [List.take_zero, List.nil_append, Nat.zero_add, this, List.drop_replicate, wideP]
    rw [List.take_of_length_le (by omega)]
    congr 2; omega
  rw [e4] at e2
  have hl2 : (wideP bs (o + d.length)).length = N := by rw [wideP_len]; exact hN.symm
  have x2 : Ext h nx ((h.put (nx + 9) (some ⟨ints .u8 (List.replicate N 0), 1, true⟩)).puts q.2.1) (nx + 10) := ⟨by omega, fun i hi => by rw [e3 i (by omega)]; exact x1.2 i hi⟩
  obtain ⟨c1, c2, _⟩ := (Sl.block (nx := nx + 10) e2 (by omega)).cut (some N) (lo := o) (hi := N) (by omega) (by rw [hl2]; exact Nat.le_refl _) (l := some (.int .i64 (o : Int))) (r := none) (bound_some (by omega)) (by rw [hl2]; rfl)
  rw [hl2] at c1
  rw [c1, some_bind]
  dsimp only
  rw [show shiftAddr (some (nx + 9, 0)) (o * 1) = some (nx + 9, 0 + o * 1) from rfl]
  obtain ⟨q2, f1, f2, f3⟩ := cop_into (o := 0 + o * 1) (n := N - o) e2 (s2.ext x2) (by rw [hl2]; omega)
  rw [f1, some_bind]
  have e5 : (wideP bs (o + d.length)).take (0 + o * 1) ++ d.take (N - o) ++ (wideP bs (o + d.length)).drop (0 + o * 1 + min d.length (N - o)) = writeP bs o d := by
    have h1 : 0 + o * 1 = o := by omega
    have h2 : min d.length (N - o) = d.length := by omega
    rw [h1, h2, List.take_of_length_le (show d.length ≤ N - o by omega)]; rfl
  rw [e5] at f2
  have hl3 := writeP_len bs o d
  refine ⟨_, _, nx + 22, rfl, ⟨by omega, fun i hi => ?_⟩, ?_⟩
  · rw [f3 i (by omega)]; exact x2.2 i hi
  · have := Byt.block (n0 := nx) (nx := nx + 22) (some N) f2 (by omega) (by omega)
    rw [hl3, ← hN] at this; exact this

/-- slices.Clone -/
theorem clone_spec (n : Nat) (Y : YldF) {h : AHeap} {nx : Nat} {a : Option (Nat × Nat)} (c : Option Nat) {bs : List Int} (s : Sl h nx a bs.length 1 (ints .u8 bs)) (hl : bs.length ≤ 1000000) :
    ∃ v h' nx', callP Try.prog keepT (n + 1) Y 81 [.slice a bs.length c] h nx = some (v, h', nx') ∧ Ext h nx h' nx' ∧ Byt .u8 h' nx' (Old nx) v bs := by
  rw [F81_eq]
  cases a with
  | none =>
    have : bs = [] := by
      cases bs with
      | nil => rfl
      | cons b l => obtain ⟨p, _, e, _⟩ := s.2 0 (by simp); cases e
    subst this
    rw [if_pos (by simp)]
    exact ⟨_, h, nx + 4, rfl, (Ext.refl h nx).le (by omega), Byt.none _ _ _ _ _⟩
  | some p =>
    rw [if_neg (by simp)]
    have x1 : Ext h nx (h.put (nx + 3) (some ⟨[], 1, true⟩)) (nx + 4) := (Ext.refl h nx).put (by omega) (by omega)
    obtain ⟨rd, e1⟩ := (s.ext x1).src'
    dsimp only
    rw [e1, some_bind]
    by_cases h0 : bs.length = 0
    · have : bs = [] := List.length_eq_zero_iff.1 h0
      subst this
      rw [show appD (h.put (nx + 3) (some ⟨[], 1, true⟩)) (some (nx + 3, 0)) 0 (some 0) 1 1 (nx + 5) (([] : List Int).length, ints .u8 [], rd) = some ⟨some (nx + 3, 0), 0, some 0, [], rd⟩ from by unfold appD; rw [if_pos (show ([] : List Int).length = 0 from rfl)], some_bind]
      exact ⟨_, _, nx + 7, rfl, x1.le (by omega), Byt.none _ _ _ _ _⟩
    · have hcap : capLt (some 0) (0 + bs.length) = true := by
        show (Nat.blt 0 CB && Nat.blt 0 (0 + bs.length)) = true
        rw [Bool.and_eq_true, Nat.blt_eq, Nat.blt_eq]; exact ⟨by decide, by omega⟩
      rw [show appD (h.put (nx + 3) (some ⟨[], 1, true⟩)) (some (nx + 3, 0)) 0 (some 0) 1 1 (nx + 5) (bs.length, ints .u8 bs, rd) = some ⟨some (nx + 5, 0), 0 + bs.length, none, [(nx + 5, some ⟨ints .u8 bs, 1, true⟩)], (nx + 3) :: rd⟩ from by
        unfold appD
        rw [if_neg h0, if_pos (growOk_of (by omega) (by omega))]
        dsimp only
        rw [put_same, some_bind, if_pos (by simp), if_pos hcap]; simp, some_bind]
      simp only [puts_cons, puts_nil]
      refine ⟨_, _, nx + 7, rfl, x1.put (by omega) (by omega), ?_⟩
      rw [Nat.zero_add]
      exact Byt.block none (put_same _ _ _) (by omega) (by omega)

/-- Read -/
theorem read_spec (n : Nat) (Y : YldF) {h : AHeap} {nx : Nat} {a : Option (Nat × Nat)} (c : Option Nat) {bs : List Int} (s : Sl h nx a bs.length 1 (ints .u8 bs)) (hl : bs.length ≤ 1000000) (o k : Nat) :
    ∃ v h' nx', callP Try.prog keepT (n + 2) Y 77 [.slice a bs.length c, .int .i64 (o : Int), .int .i64 (k : Int)] h nx = some (.tuple [v, .int .i64 0], h', nx') ∧ Ext h nx h' nx' ∧ Byt .u8 h' nx' (Old nx) v ((bs.drop o).take k) := by
  rw [F77_eq]
  by_cases ho : bs.length ≤ o
  · rw [if_pos (by simp; omega), show bs.drop o = [] from List.drop_eq_nil_of_le ho, List.take_nil]
    exact ⟨_, h, nx + 8, rfl, (Ext.refl h nx).le (by omega), Byt.none _ _ _ _ _⟩
  · rw [if_neg (by simp; omega)]
    obtain ⟨c1, c2, _⟩ := s.cut c (lo := o) (hi := bs.length) (by omega) (Nat.le_refl _) (l := some (.int .i64 (o : Int))) (r := none) (bound_some (by omega)) rfl
    have hw : wrapA .i64 (((bs.length : Nat) : Int) - (o : Int)) = ((bs.length - o : Nat) : Int) := by rw [wA (by omega) (by omega)]; omega
    have hX : (if ((bs.length - o : Nat) : Int) < (k : Int) then ((bs.length - o : Nat) : Int) else (k : Int)) = ((min k (bs.length - o) : Nat) : Int) := by split <;> omega
    rw [c1, some_bind, hw, hX]
    obtain ⟨d1, d2, _⟩ := c2.cut (some (capCut bs.length c o)) (lo := 0) (hi := min k (bs.length - o)) (by omega) (by omega) (l := none) (r := some (.int .i64 ((min k (bs.length - o) : Nat) : Int))) rfl (bound_some (by omega))
    rw [d1, some_bind]
    dsimp only
    have e : (((((ints .u8 bs).drop (o * 1)).take ((bs.length - o) * 1)).drop (0 * 1)).take ((min k (bs.length - o) - 0) * 1)) = ints .u8 ((bs.drop o).take k) := by
      simp only [Nat.mul_one, Nat.sub_zero, List.drop_zero, Nat.zero_mul, ints, ← List.map_drop, ← List.map_take]
      rw [List.take_take]
      congr 1
      rw [List.take_eq_take_iff]
      simp
    have hlen : min k (bs.length - o) - 0 = ((bs.drop o).take k).length := by simp
    rw [e, hlen] at d2
    rw [hlen]
    obtain ⟨v, h', nx', f1, f2, f3⟩ := clone_spec n Y (some (capCut (bs.length - o) (some (capCut bs.length c o)) 0)) (d2.ext ((Ext.refl h nx).le (by omega : nx ≤ nx + 19))) (by simp; omega)
    rw [f1, some_bind]
    obtain ⟨va, vc, rfl, g1, g2⟩ := f3
    simp only [mst_, mst5_]
    exact ⟨_, h', nx', rfl, ⟨by have := f2.1; omega, fun i hi => f2.2 i (by omega)⟩, va, vc, rfl, g1, g2.less fun i hi => by unfold Old at *; omega⟩

/-- Size -/
theorem size_spec (n : Nat) (Y : YldF) (a : Option (Nat × Nat)) (m : Nat) (c : Option Nat) (h : AHeap) (nx : Nat) : callP Try.prog keepT (n + 1) Y 79 [.slice a m c] h nx = some (.int .i64 (m : Int), h, nx + 4) := by rw [F79_eq]
end Go.Proofs.Ytncmdbpoceilgaa.T

/- Pools: in memory; the plain step; fetch, room. -/
namespace Go.Proofs.Ytncmdbpoceilgaa.T
open Go Go.RowKit Go.Proofs
set_option maxRecDepth 10000

abbrev Objs := List (ByteArray × List Int)
structure Pl where
  obj : Objs
  snaps : List (ByteArray × Objs)
structure Cmd where
  kind : Int
  name : ByteArray
  other : ByteArray
  off : Int
  count : Int
  data : List Int
structure Tld where
  code : Int
  size : Int
  data : List Int
  names : List ByteArray
def noT (e : Int) : Tld := ⟨e, 0, [], []⟩

/-! ### the plain step -/
def fetchP (x : List Int) (c : Cmd) : Tld := if c.off < 0 then noT 2 else if c.count < 0 then noT 2 else ⟨0, x.length, (x.drop c.off.toNat).take c.count.toNat, []⟩
def roomP {β : Type} (l : List (ByteArray × β)) (s : ByteArray) (most : Nat) : Int :=
  if goodName s = false then 4 else if (getO s l).isSome = true then 7 else if l.length = most then 8 else 0
def objectP (s : Pl) (x : List Int) (c : Cmd) : Tld × Pl :=
  if c.kind = 3 then (fetchP x c, s)
  else if c.kind = 5 then (noT 0, { s with obj := delO c.name s.obj })
  else if c.kind = 2 then
    if c.data.length = 0 then (noT 1, s) else if c.data.length > 400 then (noT 1, s)
    else if c.off < 0 then (noT 2, s) else if c.off > 1024 - (c.data.length : Int) then (noT 2, s)
    else let y := writeP x c.off.toNat c.data; (⟨0, y.length, [], []⟩, { s with obj := setO c.name y s.obj })
  else
    if c.count < 0 then (noT 2, s) else if c.count > 1024 then (noT 2, s)
    else let y := resizeP x c.count.toNat; (⟨0, y.length, [], []⟩, { s with obj := setO c.name y s.obj })
def snapP (s : Pl) (c : Cmd) : Tld × Pl :=
  if c.kind = 7 then
    let e := roomP s.snaps c.other 3
    if e = 0 then (noT e, { s with snaps := setO c.other s.obj s.snaps }) else (noT e, s)
  else match getO c.other s.snaps with
  | none => (noT 6, s)
  | some l =>
    if c.kind = 9 then (noT 0, { s with obj := l })
    else if c.kind = 10 then (noT 0, { s with snaps := delO c.other s.snaps })
    else match getO c.name l with
    | none => (noT 6, s)
    | some x => (fetchP x c, s)
def stepP (s : Pl) (c : Cmd) : Tld × Pl :=
  if c.kind = 1 then
    let e := roomP s.obj c.name 4
    if e = 0 then (noT 0, { s with obj := setO c.name [] s.obj }) else (noT e, s)
  else if c.kind = 6 then (⟨0, 0, [], sortS (s.obj.map (·.1))⟩, s)
  else if c.kind = 11 then (⟨0, 0, [], sortS (s.snaps.map (·.1))⟩, s)
  else if c.kind = 7 ∨ c.kind = 8 ∨ c.kind = 9 ∨ c.kind = 10 then snapP s c
  else if c.kind = 2 ∨ c.kind = 3 ∨ c.kind = 4 ∨ c.kind = 5 then
    match getO c.name s.obj with
    | none => (noT 6, s)
    | some x => objectP s x c
  else if c.kind = 12 then (noT 0, s) else (noT 3, s)

/-- Sizes are small. -/
def OkO (l : Objs) : Prop := ∀ x ∈ l, x.1.size ≤ 8 ∧ x.2.length ≤ 1024
structure Pl.Ok (s : Pl) : Prop where
  obj : OkO s.obj
  olen : s.obj.length ≤ 4
  snaps : ∀ x ∈ s.snaps, x.1.size ≤ 8 ∧ OkO x.2 ∧ x.2.length ≤ 4
  slen : s.snaps.length ≤ 3

/-! ### memory -/
def Txt (h : AHeap) (nx : Nat) (A : Nat → Prop) (v : AV) (ns : List ByteArray) : Prop := ∃ a c, v = .slice a ns.length c ∧ Sl h nx a ns.length 1 (ns.map AV.str) ∧ Av A a ns.length
theorem Txt.go {h h' : AHeap} {nx nx' : Nat} {A A' D : Nat → Prop} {v : AV} {ns : List ByteArray} (b : Txt h nx A v ns) (f : Frm D h nx h' nx') (d : ∀ i, i < nx → D i → A i) (g : ∀ i, i < nx → A' i → A i) : Txt h' nx' A' v ns := by
  obtain ⟨a, c, e, s, v⟩ := b
  exact ⟨a, c, e, s.fr (v.go s d) f, v.go s g⟩
theorem Txt.none (h : AHeap) (nx : Nat) (A : Nat → Prop) (a : Option (Nat × Nat)) (c : Option Nat) : Txt h nx A (.slice a 0 c) [] := ⟨a, c, rfl, ⟨rfl, fun j hj => by simp at hj⟩, Av.none⟩
def ToldR (h : AHeap) (nx : Nat) (A : Nat → Prop) (t : Tld) (r : List AV) : Prop := ∃ d e, r = [.int .i64 t.code, .bool false, .int .i64 t.size, d, e] ∧ Byt .u8 h nx A d t.data ∧ Txt h nx A e t.names
theorem ToldR.go {h h' : AHeap} {nx nx' : Nat} {A A' D : Nat → Prop} {t : Tld} {r : List AV} (b : ToldR h nx A t r) (f : Frm D h nx h' nx') (d : ∀ i, i < nx → D i → A i) (g : ∀ i, i < nx → A' i → A i) : ToldR h' nx' A' t r := by
  obtain ⟨x, y, e, b1, b2⟩ := b
  exact ⟨x, y, e, b1.go f d g, b2.go f d g⟩
theorem ToldR.no (h : AHeap) (nx : Nat) (A : Nat → Prop) (e : Int) : ToldR h nx A (noT e) [.int .i64 e, .bool false, .int .i64 0, .slice none 0 none, .slice none 0 none] :=
  ⟨_, _, rfl, Byt.none _ _ _ _ _, Txt.none _ _ _ _ _⟩

/-- A map in memory. -/
def MapM {β : Type} (R : β → AV → Prop) (h : AHeap) (o : Nat) (l : List (ByteArray × β)) : Prop := ∃ cs, h o = some ⟨cs, MB, true⟩ ∧ All2 (Ent R) l cs
def RB (h : AHeap) (nx : Nat) (A : Nat → Prop) (bs : List Int) (v : AV) : Prop := Byt .u8 h nx A v bs
def RM (h : AHeap) (nx : Nat) (A : Nat → Prop) (l : Objs) (v : AV) : Prop := ∃ j, v = .mapv (some j) ∧ j < nx ∧ ¬ A j ∧ MapM (RB h nx A) h j l
theorem MapM.mono {β : Type} {R R' : β → AV → Prop} {h h' : AHeap} {o : Nat} {l : List (ByteArray × β)} (m : MapM R h o l) (e : h' o = h o) (k : ∀ x v, R x v → R' x v) : MapM R' h' o l := by
  obtain ⟨cs, e1, e2⟩ := m
  exact ⟨cs, e.trans e1, e2.mono fun x c ⟨v, p, q⟩ => ⟨v, p, k _ _ q⟩⟩
theorem RM.go {h h' : AHeap} {nx nx' : Nat} {A A' D : Nat → Prop} {l : Objs} {v : AV} (b : RM h nx A l v) (f : Frm D h nx h' nx') (d : ∀ i, i < nx → D i → A i) (g : ∀ i, i < nx → A' i → A i) : RM h' nx' A' l v := by
  obtain ⟨j, e, j1, j2, m⟩ := b
  exact ⟨j, e, by have := f.1; omega, fun q => j2 (g j j1 q), m.mono (f.2 j j1 fun q => j2 (d j j1 q)) fun x u r => Byt.go r f d g⟩

def Bst (S o k : Nat) : Nat → Prop := fun i => i = S ∨ i = o ∨ i = k
/-- What data lie apart from. -/
def Avd (X : Nat → Prop) (S o k : Nat) : Nat → Prop := fun i => Bst S o k i ∨ X i
structure PM (X : Nat → Prop) (h : AHeap) (nx S o k : Nat) (s : Pl) : Prop where
  st : h S = some ⟨[.mapv (some o), .mapv (some k), .slice none 0 none], 3, true⟩
  ob : MapM (RB h nx (Avd X S o k)) h o s.obj
  sn : MapM (RM h nx (Avd X S o k)) h k s.snaps
  lS : S < nx
  lo : o < nx
  lk : k < nx
  So : S ≠ o
  Sk : S ≠ k
  ok : o ≠ k
  lX : ∀ i, X i → i < nx
variable {X : Nat → Prop}

/-- What lay is there still. -/
theorem PM.ext {h h' : AHeap} {nx nx' S o k : Nat} {s : Pl} (p : PM X h nx S o k s) (x : Ext h nx h' nx') : PM X h' nx' S o k s :=
  ⟨(x.2 S p.lS).trans p.st, p.ob.mono (x.2 o p.lo) fun _ _ r => Byt.go r (x.fr fun _ => False) (fun _ _ q => q.elim) fun _ _ q => q,
   p.sn.mono (x.2 k p.lk) fun _ _ r => RM.go r (x.fr fun _ => False) (fun _ _ q => q.elim) fun _ _ q => q, by have := p.lS; have := x.1; omega, by have := p.lo; have := x.1; omega, by have := p.lk; have := x.1; omega, p.So, p.Sk, p.ok, fun i hi => by have := p.lX i hi; have := x.1; omega⟩
/-- What a call that may turn the pool comes to. -/
def DoRes (X : Nat → Prop) (h : AHeap) (nx S o k : Nat) (t : Tld) (s' : Pl) (r : Option (AV × AHeap × Nat)) : Prop :=
  ∃ row h' nx' o', r = some (.agg row, h', nx') ∧ ToldR h' nx' (fun i => i < nx ∨ i = o') t row ∧ PM X h' nx' S o' k s' ∧ Frm (Bst S o k) h nx h' nx' ∧ (o' = o ∨ nx ≤ o')

/-- Behind a call whose answer is handed on: the result's cell is new. -/
theorem DoRes.tail {h hh : AHeap} {nx S o k i n1 : Nat} {t : Tld} {s s' : Pl} {c : Option (AV × AHeap × Nat)} (w : DoRes X hh n1 S o k t s' c) (x : Ext h nx hh n1) (hi : nx ≤ i) (hi2 : i < n1) {l : List AV} (hb : hh i = some ⟨l, 5, true⟩) (hl : l.length = 5) (p : PM X h nx S o k s) :
    DoRes X h nx S o k t s' (c.bind fun r5 => (asAgg 5 r5.1).bind fun d6 =>
      (asI .i64 (d6.getD 0 .bad)).bind fun n7 =>
      (asB (d6.getD 1 .bad)).bind fun t8 =>
      (asI .i64 (d6.getD 2 .bad)).bind fun n9 =>
      (asSl (d6.getD 3 .bad)).bind fun s10 =>
      (asSl (d6.getD 4 .bad)).bind fun s11 =>
      (stA r5.2.1 i 0 (.agg [(.int .i64 n7), (.bool t8), (.int .i64 n9), (.slice s10.1 s10.2.1 s10.2.2), (.slice s11.1 s11.2.1 s11.2.2)]) 5).bind fun b12 =>
      (ldR (AHeap.put r5.2.1 i (some b12)) i 0 5).bind fun l14 =>
      (asAgg 5 (AV.agg l14)).bind fun d15 =>
      (asI .i64 (d15.getD 0 .bad)).bind fun n16 =>
      (asB (d15.getD 1 .bad)).bind fun t17 =>
      (asI .i64 (d15.getD 2 .bad)).bind fun n18 =>
      (asSl (d15.getD 3 .bad)).bind fun s19 =>
      (asSl (d15.getD 4 .bad)).bind fun s20 =>
      some ((AV.agg [(.int .i64 n16), (.bool t17), (.int .i64 n18), (.slice s19.1 s19.2.1 s19.2.2), (.slice s20.1 s20.2.1 s20.2.2)]), AHeap.put r5.2.1 i (some b12), r5.2.2)) := by
  obtain ⟨row, h', nx', o', e, ⟨d, u, rfl, ⟨da, dc, rfl, d1, d2⟩, ⟨ua, uc, rfl, u1, u2⟩⟩, q, f, ho⟩ := w
  have hiB : ¬ Bst S o k i := by have := p.lS; have := p.lo; have := p.lk; unfold Bst; omega
  have ho' : i ≠ o' := by have := p.lo; omega
  have hb' : h' i = some ⟨l, 5, true⟩ := (f.2 i hi2 hiB).trans hb
  rw [tail5 e hb' hl]
  have x' : Frm (fun j => j = i) h' nx' (h'.put i (some ⟨[.int .i64 t.code, .bool false, .int .i64 t.size, .slice da t.data.length dc, .slice ua t.names.length uc], 5, true⟩)) nx' := (Frm.refl _ h' nx').put (.inl rfl) (Nat.le_refl _)
  have hlt : i < nx' := by have := f.1; omega
  have hne : ∀ j, Bst S o' k j → j ≠ i := fun j hj => by
    have := p.lS; have := p.lk
    rcases hj with rfl | rfl | rfl
    · omega
    · exact ho'.symm
    · omega
  refine ⟨_, _, nx', o', rfl, ?_, ?_, ?_, ?_⟩
  · refine ⟨_, _, rfl, ⟨da, dc, rfl, d1.fr (d2.less fun j hj => .inl (by omega)) x', d2.go d1 fun j hj q => ?_⟩, ⟨ua, uc, rfl, u1.fr (u2.less fun j hj => .inl (by omega)) x', u2.go u1 fun j hj q => ?_⟩⟩
    · rcases q with q | q
      · left; have := x.1; omega
      · exact .inr q
    · rcases q with q | q
      · left; have := x.1; omega
      · exact .inr q
  · have hkeep : ∀ j, Bst S o' k j → (h'.put i (some ⟨[.int .i64 t.code, .bool false, .int .i64 t.size, .slice da t.data.length dc, .slice ua t.names.length uc], 5, true⟩)) j = h' j := fun j hj => put_ne (hne j hj)
    have hBy : ∀ bs v, RB h' nx' (Avd X S o' k) bs v → RB (h'.put i (some ⟨[.int .i64 t.code, .bool false, .int .i64 t.size, .slice da t.data.length dc, .slice ua t.names.length uc], 5, true⟩)) nx' (Avd X S o' k) bs v := fun bs v ⟨a, c, e, b1, b2⟩ => by
      refine ⟨a, c, e, b1.fr (fun hn pp ep q => ?_) x', b2⟩
      -- a row's block is no bytes' block
      obtain ⟨pb, bb, e1, e2, e3, e4, _⟩ := b1.2 0 hn
      rw [e1] at ep; obtain rfl := Option.some.inj ep
      have q' : pb.1 = i := q
      rw [q', hb'] at e3
      obtain rfl := Option.some.inj e3
      cases e4
    refine ⟨(hkeep S (.inl rfl)).trans q.st, q.ob.mono (hkeep o' (.inr (.inl rfl))) hBy, q.sn.mono (hkeep k (.inr (.inr rfl))) fun lo v ⟨j, ej, j1, j2, m⟩ => ?_, q.lS, q.lo, q.lk, q.So, q.Sk, q.ok, q.lX⟩
    refine ⟨j, ej, j1, j2, m.mono (put_ne fun q => ?_) hBy⟩
    subst q
    obtain ⟨cs, m1, _⟩ := m
    rw [hb'] at m1
    exact absurd (congrArg (fun b => b.map ABlk.es) m1) (by simp; decide)
  · exact ⟨by have := x.1; have := f.1; omega, fun j hj hd => by
      rw [put_ne (by omega)]; exact (f.2 j (by have := x.1; omega) hd).trans (x.2 j hj)⟩
  · rcases ho with ho | ho
    · exact .inl ho
    · right; have := x.1; omega
end Go.Proofs.Ytncmdbpoceilgaa.T

/- Pools: fetch, room. -/
namespace Go.Proofs.Ytncmdbpoceilgaa.T
open Go Go.RowKit Go.Proofs
set_option maxRecDepth 10000

theorem mapD_at {h : AHeap} {o : Nat} {cs : List AV} (e : h o = some ⟨cs, MB, true⟩) : mapD h o = some cs := by
  unfold mapD; rw [e]; rfl
theorem mapO_at {h : AHeap} {o : Nat} {cs : List AV} (e : h o = some ⟨cs, MB, true⟩) : mapO h (some o) = some cs := mapD_at e
def cmdV (c : Cmd) (x5 x6 : Int) (da : Option (Nat × Nat)) (dc : Option Nat) : List AV := [.int .i64 c.kind, .str c.name, .str c.other, .int .i64 c.off, .int .i64 c.count, .int .i64 x5, .int .i64 x6, .slice da c.data.length dc]

theorem fetch_spec {n : Nat} (hn : 5 ≤ n) (Y : YldF) {h : AHeap} {nx : Nat} {a : Option (Nat × Nat)} (cc : Option Nat) {bs : List Int} (s : Sl h nx a bs.length 1 (ints .u8 bs)) (hl : bs.length ≤ 1024) (c : Cmd) (x5 x6 : Int) (da : Option (Nat × Nat)) (dc : Option Nat) :
    ∃ row h' nx', callP Try.prog keepT n Y 34 [.slice a bs.length cc, .agg (cmdV c x5 x6 da dc)] h nx = some (.agg row, h', nx') ∧ Ext h nx h' nx' ∧ ToldR h' nx' (Old nx) (fetchP bs c) row := by
  obtain ⟨n, rfl⟩ : ∃ m, n = m + 4 := ⟨n - 4, by omega⟩
  unfold cmdV
  rw [F34_eq]
  dsimp only
  obtain ⟨h2, hh2⟩ : ∃ h2, h2 = AHeap.put (AHeap.put h nx (some ⟨[.int .i64 c.kind, .str c.name, .str c.other, .int .i64 c.off, .int .i64 c.count, .int .i64 x5, .int .i64 x6, .slice da c.data.length dc], 8, true⟩)) (nx + 1) (some ⟨[.int .i64 0, .bool false, .int .i64 0, .slice none 0 none, .slice none 0 none], 5, true⟩) := ⟨_, rfl⟩
  rw [← hh2]
  have b1 : h2 nx = some ⟨[.int .i64 c.kind, .str c.name, .str c.other, .int .i64 c.off, .int .i64 c.count, .int .i64 x5, .int .i64 x6, .slice da c.data.length dc], 8, true⟩ := by rw [hh2, put_ne (by omega), put_same]
  have b2 : h2 (nx + 1) = some ⟨[.int .i64 0, .bool false, .int .i64 0, .slice none 0 none, .slice none 0 none], 5, true⟩ := by rw [hh2, put_same]
  have x2 : Ext h nx h2 (nx + 2) := by rw [hh2]; exact ((Ext.refl h nx).put (m' := nx + 1) (by omega) (by omega)).put (by omega) (by omega)
  clear hh2
  rw [ld_at b1 (show _ = some (AV.int .i64 c.off) from rfl)]
  simp only [mst_, mst5_]
  have no : ∀ (m0 : Nat), nx + 2 ≤ m0 → Ext h nx ((h2.put m0 (some ⟨[.int .i64 2, .bool false, .int .i64 0, .slice none 0 none, .slice none 0 none], 5, true⟩)).put (nx + 1) (some ⟨[.int .i64 2, .bool false, .int .i64 0, .slice none 0 none, .slice none 0 none], 5, true⟩)) (m0 + 4) := fun m0 hm =>
    (x2.put (by omega) (by omega)).put (by omega) (by omega)
  by_cases c1 : c.off < 0
  · rw [if_pos (by simpa using c1), tail5 (no_eq _ Y 2 h2 (nx + 12)) (show (h2.put (nx + 12) _) (nx + 1) = _ from (put_ne (by omega)).trans b2) rfl]
    rw [show fetchP bs c = noT 2 from by simp [fetchP, c1]]
    exact ⟨_, _, _, rfl, no _ (by omega), ToldR.no _ _ _ _⟩
  · rw [if_neg (by simpa using c1), ld_at b1 (show _ = some (AV.int .i64 c.count) from rfl)]
    simp only [mst_, mst5_]
    by_cases c2 : c.count < 0
    · rw [if_pos (by simpa using c2), tail5 (no_eq _ Y 2 h2 (nx + 12)) (show (h2.put (nx + 12) _) (nx + 1) = _ from (put_ne (by omega)).trans b2) rfl]
      rw [show fetchP bs c = noT 2 from by simp [fetchP, c1, c2]]
      exact ⟨_, _, _, rfl, no _ (by omega), ToldR.no _ _ _ _⟩
    · rw [if_neg (by simpa using c2), F34_J1_eq]
      simp only [mst_, mst5_]
      rw [ld_at b1 (show _ = some (AV.int .i64 c.off) from rfl)]
      simp only [mst_, mst5_]
      rw [ld_at b1 (show _ = some (AV.int .i64 c.count) from rfl)]
      simp only [mst_, mst5_]
      have ho : c.off = ((c.off.toNat : Nat) : Int) := by omega
      have hk : c.count = ((c.count.toNat : Nat) : Int) := by omega
      obtain ⟨v, h', nx', e1, e2, ⟨va, vc, rfl, e3, e4⟩⟩ := read_spec (n + 1) Y cc (s.ext (x2.le (by omega : nx + 2 ≤ nx + 10 + 12))) (by omega) c.off.toNat c.count.toNat
      rw [← ho, ← hk] at e1
      rw [e1]
      simp only [mst_, mst5_]
      rw [if_neg (by simp), size_spec]
      simp only [mst_, mst5_]
      have b2' : h' (nx + 1) = some ⟨[.int .i64 0, .bool false, .int .i64 0, .slice none 0 none, .slice none 0 none], 5, true⟩ := (e2.2 _ (by omega)).trans b2
      rw [tail5l b2' rfl, show fetchP bs c = ⟨0, bs.length, (bs.drop c.off.toNat).take c.count.toNat, []⟩ from by simp [fetchP, c1, c2]]
      have x3 : Ext h nx h' nx' := ⟨by have := e2.1; omega, fun i hi => by rw [e2.2 i (by omega)]; exact x2.2 i hi⟩
      have f3 : Frm (fun j => j = nx + 1) h' nx' (h'.put (nx + 1) (some ⟨[.int .i64 0, .bool false, .int .i64 bs.length, .slice va ((bs.drop c.off.toNat).take c.count.toNat).length vc, .slice none 0 none], 5, true⟩)) (nx' + 8 + 4) := (Frm.refl _ h' nx').put (.inl rfl) (by omega)
      refine ⟨_, _, _, rfl, x3.put (by omega) (by omega), _, _, rfl, Byt.go ⟨va, vc, rfl, e3, e4⟩ f3 (fun j hj q => ?_) (fun j hj q => ?_), Txt.none _ _ _ _ _⟩
      · unfold Old; omega
      · unfold Old at *; omega

theorem room22 {n : Nat} (hn : 1011 ≤ n) (Y : YldF) {h : AHeap} {nx o : Nat} (ho : o < nx) {l : Objs} {A : Nat → Prop} (m : MapM (RB h nx A) h o l) {s : ByteArray} (hs : s.size ≤ 1000) (most : Nat) :
    ∃ h' nx', callP Try.prog keepT n Y 22 [.mapv (some o), .str s, .int .i64 (most : Int)] h nx = some (.int .i64 (roomP l s most), h', nx') ∧ Ext h nx h' nx' := by
  obtain ⟨n, rfl⟩ : ∃ m, n = m + 1 := ⟨n - 1, by omega⟩
  obtain ⟨cs, e1, e2⟩ := m
  rw [F22_eq, mapO_at e1]
  simp only [mst_, mst5_]
  obtain ⟨fo, ff, fh, sa, sn, sc, fs⟩ : ∃ fo, findE s cs 0 = some fo ∧ hasE fo = (getO s l).isSome ∧ ∃ sa sn sc, valE (.slice none 0 none) fo = .slice sa sn sc := by
    rcases find_ent s e2 0 with ⟨q1, q2, _⟩ | ⟨x, j, v, q1, q2, ⟨va, vc, rfl, _⟩, _⟩
    · exact ⟨_, q2, by rw [q1]; rfl, _, _, _, rfl⟩
    · exact ⟨_, q2, by rw [q1]; rfl, _, _, _, rfl⟩
  rw [ff]
  simp only [mst_, mst5_]
  rw [fs]
  simp only [mst_, mst5_]
  obtain ⟨h', nx', g1, g2⟩ := name_spec (n := n) (by omega) Y hs h (nx + 13)
  rw [g1]
  simp only [mst_, mst5_]
  have x : Ext h nx h' nx' := ⟨by have := g2.1; omega, fun i hi => g2.2 i (by omega)⟩
  unfold roomP
  by_cases c1 : goodName s = false
  · rw [if_pos (by simp [c1]), if_pos c1]; exact ⟨_, _, rfl, x.le (by omega)⟩
  · rw [if_neg (by simp [c1]), if_neg c1, fh]
    by_cases c2 : (getO s l).isSome = true
    · rw [if_pos c2, if_pos c2]; exact ⟨_, _, rfl, x.le (by omega)⟩
    · rw [if_neg c2, if_neg c2, mapO_at ((g2.2 o (by omega)).trans e1)]
      simp only [mst_, mst5_]
      rw [e2.len]
      by_cases c3 : l.length = most
      · rw [if_pos (by simp [c3]), if_pos c3]; exact ⟨_, _, rfl, x.le (by omega)⟩
      · rw [if_neg (by simp; omega), if_neg c3]; exact ⟨_, _, rfl, x.le (by omega)⟩

theorem room32 {n : Nat} (hn : 1011 ≤ n) (Y : YldF) {h : AHeap} {nx o : Nat} (ho : o < nx) {l : List (ByteArray × Objs)} {A : Nat → Prop} (m : MapM (RM h nx A) h o l) {s : ByteArray} (hs : s.size ≤ 1000) (most : Nat) :
    ∃ h' nx', callP Try.prog keepT n Y 32 [.mapv (some o), .str s, .int .i64 (most : Int)] h nx = some (.int .i64 (roomP l s most), h', nx') ∧ Ext h nx h' nx' := by
  obtain ⟨n, rfl⟩ : ∃ m, n = m + 1 := ⟨n - 1, by omega⟩
  obtain ⟨cs, e1, e2⟩ := m
  rw [F32_eq, mapO_at e1]
  simp only [mst_, mst5_]
  obtain ⟨fo, ff, fh, sa, fs⟩ : ∃ fo, findE s cs 0 = some fo ∧ hasE fo = (getO s l).isSome ∧ ∃ sa, valE (.mapv none) fo = .mapv sa := by
    rcases find_ent s e2 0 with ⟨q1, q2, _⟩ | ⟨x, j, v, q1, q2, ⟨va, rfl, _⟩, _⟩
    · exact ⟨_, q2, by rw [q1]; rfl, _, rfl⟩
    · exact ⟨_, q2, by rw [q1]; rfl, _, rfl⟩
  rw [ff]
  simp only [mst_, mst5_]
  rw [fs]
  simp only [mst_, mst5_]
  obtain ⟨h', nx', g1, g2⟩ := name_spec (n := n) (by omega) Y hs h (nx + 13)
  rw [g1]
  simp only [mst_, mst5_]
  have x : Ext h nx h' nx' := ⟨by have := g2.1; omega, fun i hi => g2.2 i (by omega)⟩
  unfold roomP
  by_cases c1 : goodName s = false
  · rw [if_pos (by simp [c1]), if_pos c1]; exact ⟨_, _, rfl, x.le (by omega)⟩
  · rw [if_neg (by simp [c1]), if_neg c1, fh]
    by_cases c2 : (getO s l).isSome = true
    · rw [if_pos c2, if_pos c2]; exact ⟨_, _, rfl, x.le (by omega)⟩
    · rw [if_neg c2, if_neg c2, mapO_at ((g2.2 o (by omega)).trans e1)]
      simp only [mst_, mst5_]
      rw [e2.len]
      by_cases c3 : l.length = most
      · rw [if_pos (by simp [c3]), if_pos c3]; exact ⟨_, _, rfl, x.le (by omega)⟩
      · rw [if_neg (by simp; omega), if_neg c3]; exact ⟨_, _, rfl, x.le (by omega)⟩
end Go.Proofs.Ytncmdbpoceilgaa.T
