/- Pools: maps as lists, what is told, small functions. -/
import Derived.Test.YtncmdbpoceilgaaTK
import Derived.Test.YtncmdbpoceilgaaPO
set_option linter.unusedVariables false
set_option linter.unusedSimpArgs false
namespace Go.Proofs.Ytncmdbpoceilgaa.T
open Go Go.RowKit Go.Proofs
set_option maxRecDepth 10000

/-! ### maps as lists -/
variable {β : Type}
def getO (k : ByteArray) : List (ByteArray × β) → Option β
  | [] => none
  | p :: l => if p.1 = k then some p.2 else getO k l
def setO (k : ByteArray) (v : β) : List (ByteArray × β) → List (ByteArray × β)
  | [] => [(k, v)]
  | p :: l => if p.1 = k then (k, v) :: l else p :: setO k v l
def delO (k : ByteArray) : List (ByteArray × β) → List (ByteArray × β)
  | [] => []
  | p :: l => if p.1 = k then l else p :: delO k l
/-- An entry in memory. -/
def Ent (R : β → AV → Prop) (x : ByteArray × β) (c : AV) : Prop := ∃ v, c = .tuple [.str x.1, v] ∧ R x.2 v

theorem find_ent {R : β → AV → Prop} (k : ByteArray) : ∀ {l : List (ByteArray × β)} {cs : List AV} (_ : All2 (Ent R) l cs) (i : Nat),
    (getO k l = none ∧ findE k cs i = some none ∧ (∀ x, setO k x l = l ++ [(k, x)]) ∧ delO k l = l) ∨
    (∃ x j v, getO k l = some x ∧ findE k cs i = some (some (i + j, v)) ∧ R x v ∧ (∀ x' y, R x' y → All2 (Ent R) (setO k x' l) (cs.set j (.tuple [.str k, y]))) ∧ All2 (Ent R) (delO k l) (cs.eraseIdx j))
  | [], cs, h, i => by
    simp only [All2] at h; subst h
    exact .inl ⟨rfl, rfl, fun x => rfl, rfl⟩
  | p :: l, _, ⟨c, cs, e, ⟨v, hc, hr⟩, h⟩, i => by
    subst e hc
    by_cases q : p.1 = k
    · refine .inr ⟨p.2, 0, v, by simp [getO, q], by simp [findE, q], hr, fun x' y hy => ?_, by simpa [delO, q] using h⟩
      simp only [setO, q, if_true, List.set_cons_zero]
      exact ⟨_, _, rfl, ⟨y, rfl, hy⟩, h⟩
    · rcases find_ent k h (i + 1) with ⟨h1, h2, h3, h4⟩ | ⟨x, j, v', h1, h2, h3, h4, h5⟩
      · exact .inl ⟨by simp [getO, q, h1], by simp [findE, q, h2], fun x => by simp [setO, q, h3], by simp [delO, q, h4]⟩
      · refine .inr ⟨x, j + 1, v', by simp [getO, q, h1], by simp [findE, q, h2]; omega, h3, fun x' y hy => ?_, ?_⟩
        · simp only [setO, q, if_false, List.set_cons_succ]
          exact ⟨_, _, rfl, ⟨v, rfl, hr⟩, h4 x' y hy⟩
        · simp only [delO, q, if_false, List.eraseIdx_cons_succ]
          exact ⟨_, _, rfl, ⟨v, rfl, hr⟩, h5⟩
theorem upd_ent {R : β → AV → Prop} {k : ByteArray} {l : List (ByteArray × β)} {cs : List AV} (h : All2 (Ent R) l cs) {x : β} {v : AV} (hr : R x v) : ∃ cs', updE k v cs = some cs' ∧ All2 (Ent R) (setO k x l) cs' := by
  rcases find_ent k h 0 with ⟨h1, h2, h3, _⟩ | ⟨x0, j, v', h1, h2, h3, h4, _⟩
  · exact ⟨cs ++ [.tuple [.str k, v]], by simp [updE, h2], by rw [h3]; exact h.append (All2.one ⟨v, rfl, hr⟩)⟩
  · exact ⟨cs.set j (.tuple [.str k, v]), by simp [updE, h2], h4 x v hr⟩
theorem del_ent {R : β → AV → Prop} {k : ByteArray} {l : List (ByteArray × β)} {cs : List AV} (h : All2 (Ent R) l cs) : ∃ cs', delE k cs = some cs' ∧ All2 (Ent R) (delO k l) cs' := by
  rcases find_ent k h 0 with ⟨h1, h2, _, h3⟩ | ⟨x0, j, v', h1, h2, h3, _, h4⟩
  · exact ⟨cs, by simp [delE, h2], by rw [h3]; exact h⟩
  · exact ⟨cs.eraseIdx j, by simp [delE, h2], h4⟩
theorem keys_ent {R : β → AV → Prop} : ∀ {l : List (ByteArray × β)} {cs : List AV}, All2 (Ent R) l cs → keysE cs = some (l.map (·.1))
  | [], cs, h => by simp only [All2] at h; subst h; rfl
  | p :: l, _, ⟨c, cs, e, ⟨v, hc, hr⟩, h⟩ => by subst e hc; simp [keysE, keys_ent h]

theorem getO_mem {k : ByteArray} {x : β} : ∀ {l : List (ByteArray × β)}, getO k l = some x → (k, x) ∈ l
  | [], h => by cases h
  | p :: l, h => by
    unfold getO at h
    split at h
    · rename_i q; subst q; obtain rfl := Option.some.inj h; exact List.mem_cons_self
    · exact List.mem_cons_of_mem _ (getO_mem h)
/-! ### steps -/
theorem asAgg_5 (a b c d e : AV) : asAgg 5 (.agg [a, b, c, d, e]) = some [a, b, c, d, e] := asAgg_mk (by simp)
theorem asAgg_6 (a b c d e f : AV) : asAgg 6 (.agg [a, b, c, d, e, f]) = some [a, b, c, d, e, f] := asAgg_mk (by simp)
theorem asAgg_8 (a b c d e f g i : AV) : asAgg 8 (.agg [a, b, c, d, e, f, g, i]) = some [a, b, c, d, e, f, g, i] := asAgg_mk (by simp)
theorem getD_4 (a b c d e f : AV) (l : List AV) : (a :: b :: c :: d :: e :: l).getD 4 f = e := by simp
theorem getD_5 (a b c d e f g : AV) (l : List AV) : (a :: b :: c :: d :: e :: f :: l).getD 5 g = f := by simp
theorem getD_6 (a b c d e f g i : AV) (l : List AV) : (a :: b :: c :: d :: e :: f :: g :: l).getD 6 i = g := by simp
theorem getD_7 (a b c d e f g i j : AV) (l : List AV) : (a :: b :: c :: d :: e :: f :: g :: i :: l).getD 7 j = i := by simp
theorem asMp_mk (r : Option Nat) : asMp (.mapv r) = some r := by simp [asMp]
theorem mst5_ : (∀ a b c d e, asAgg 5 (.agg [a, b, c, d, e]) = some [a, b, c, d, e]) ∧ (∀ a b c d e f, asAgg 6 (.agg [a, b, c, d, e, f]) = some [a, b, c, d, e, f]) ∧ (∀ a b c d e f g i, asAgg 8 (.agg [a, b, c, d, e, f, g, i]) = some [a, b, c, d, e, f, g, i]) ∧
    (∀ (a b c d e f : AV) (l : List AV), (a :: b :: c :: d :: e :: l).getD 4 f = e) ∧ (∀ (a b c d e f g : AV) (l : List AV), (a :: b :: c :: d :: e :: f :: l).getD 5 g = f) ∧ (∀ (a b c d e f g i : AV) (l : List AV), (a :: b :: c :: d :: e :: f :: g :: l).getD 6 i = g) ∧
    (∀ (a b c d e f g i j : AV) (l : List AV), (a :: b :: c :: d :: e :: f :: g :: i :: l).getD 7 j = i) ∧ (∀ r, asMp (.mapv r) = some r) := ⟨asAgg_5, asAgg_6, asAgg_8, getD_4, getD_5, getD_6, getD_7, asMp_mk⟩

/-- What is told is laid into the result's cell and read from it: behind a call. -/
theorem tail5 {c : Option (AV × AHeap × Nat)} {i : Nat} {h1 : AHeap} {m1 : Nat} {l : List AV} {a z : Int} {b : Bool} {d1 e1 : Option (Nat × Nat)} {d2 e2 : Nat} {d3 e3 : Option Nat} (hc : c = some (.agg [.int .i64 a, .bool b, .int .i64 z, .slice d1 d2 d3, .slice e1 e2 e3], h1, m1)) (hb : h1 i = some ⟨l, 5, true⟩) (hl : l.length = 5) :
    (c.bind fun r5 => (asAgg 5 r5.1).bind fun d6 =>
      (asI .i64 (d6.getD 0 .bad)).bind fun n7 =>
      (asB (d6.getD 1 .bad)).bind fun t8 =>
      (asI .i64 (d6.getD 2 .bad)).bind fun n9 =>
      (asSl (d6.getD 3 .bad)).bind fun s10 =>
      (asSl (d6.getD 4 .bad)).bind fun s11 =>
      (stA r5.2.1 i 0 (.agg [(.int .i64 n7), (.bool t8), (.int .i64 n9), (.slice s10.1 s10.2.1 s10.2.2), (.slice s11.1 s11.2.1 s11.2.2)]) 5).bind fun b12 =>
      (ldR (AHeap.put r5.2.1 i (some b12)) i 0 5).bind fun l14 =>
      (asAgg 5 (AV.agg l14)).bind fun d15 =>
      (asI .i64 (d15.getD 0 .bad)).bind fun n16 =>
      (asB (d15.getD 1 .bad)).bind fun t17 =>
      (asI .i64 (d15.getD 2 .bad)).bind fun n18 =>
      (asSl (d15.getD 3 .bad)).bind fun s19 =>
      (asSl (d15.getD 4 .bad)).bind fun s20 =>
      some ((AV.agg [(.int .i64 n16), (.bool t17), (.int .i64 n18), (.slice s19.1 s19.2.1 s19.2.2), (.slice s20.1 s20.2.1 s20.2.2)]), AHeap.put r5.2.1 i (some b12), r5.2.2)) =
    some (AV.agg [.int .i64 a, .bool b, .int .i64 z, .slice d1 d2 d3, .slice e1 e2 e3], h1.put i (some ⟨[.int .i64 a, .bool b, .int .i64 z, .slice d1 d2 d3, .slice e1 e2 e3], 5, true⟩), m1) := by
  subst hc
  simp only [mst_, mst5_]
  rw [st_all hb (by simp) (by simp [hl]) (by simp [allOne, AV.one])]
  rw [ldr_all (put_same _ _ _) (by simp)]
  simp only [mst_, mst5_]
/-- The same, of cells that are there. -/
theorem tail5l {i : Nat} {h1 : AHeap} {m1 : Nat} {l : List AV} {a z : Int} {b : Bool} {d1 e1 : Option (Nat × Nat)} {d2 e2 : Nat} {d3 e3 : Option Nat} (hb : h1 i = some ⟨l, 5, true⟩) (hl : l.length = 5) :
    ((stA h1 i 0 (.agg [.int .i64 a, .bool b, .int .i64 z, .slice d1 d2 d3, .slice e1 e2 e3]) 5).bind fun b12 =>
      (ldR (AHeap.put h1 i (some b12)) i 0 5).bind fun l14 =>
      (asAgg 5 (AV.agg l14)).bind fun d15 =>
      (asI .i64 (d15.getD 0 .bad)).bind fun n16 =>
      (asB (d15.getD 1 .bad)).bind fun t17 =>
      (asI .i64 (d15.getD 2 .bad)).bind fun n18 =>
      (asSl (d15.getD 3 .bad)).bind fun s19 =>
      (asSl (d15.getD 4 .bad)).bind fun s20 =>
      some ((AV.agg [(.int .i64 n16), (.bool t17), (.int .i64 n18), (.slice s19.1 s19.2.1 s19.2.2), (.slice s20.1 s20.2.1 s20.2.2)]), AHeap.put h1 i (some b12), m1)) =
    some (AV.agg [.int .i64 a, .bool b, .int .i64 z, .slice d1 d2 d3, .slice e1 e2 e3], h1.put i (some ⟨[.int .i64 a, .bool b, .int .i64 z, .slice d1 d2 d3, .slice e1 e2 e3], 5, true⟩), m1) := by
  rw [st_all hb (by simp) (by simp [hl]) (by simp [allOne, AV.one])]
  rw [ldr_all (put_same _ _ _) (by simp)]
  simp only [mst_, mst5_]

/-- no -/
theorem no_eq (n : Nat) (Y : YldF) (e : Int) (h : AHeap) (nx : Nat) : callP Try.prog keepT (n + 1) Y 23 [.int .i64 e] h nx =
    some (.agg [.int .i64 e, .bool false, .int .i64 0, .slice none 0 none, .slice none 0 none], h.put nx (some ⟨[.int .i64 e, .bool false, .int .i64 0, .slice none 0 none, .slice none 0 none], 5, true⟩), nx + 4) := by
  rw [F23_eq]
  dsimp only
  rw [tail5l (l := [.int .i64 0, .bool false, .int .i64 0, .slice none 0 none, .slice none 0 none]) (put_same _ _ _) rfl, put_put]

/-! ### Name -/
def okByte (b : Int) : Bool := (decide (97 ≤ b) && decide (b ≤ 122)) || (decide (48 ≤ b) && decide (b ≤ 57))
def byts (s : ByteArray) : List Int := s.data.toList.map fun b => (b.toNat : Int)
def goodName (s : ByteArray) : Bool := (byts s).all okByte && decide (1 ≤ s.size) && decide (s.size ≤ 8)
theorem byts_len (s : ByteArray) : (byts s).length = s.size := by unfold byts; rw [List.length_map]; exact Array.length_toList
theorem bytesA_ints (s : ByteArray) : bytesA s = ints .u8 (byts s) := by simp [bytesA, ints, byts]

theorem name_loop (call : YldF → CallF) (Y : YldF) (lf : Nat) (s : ByteArray) (hs : s.size ≤ 1000) (px : Nat) (h : AHeap) (hp : h px = some ⟨bytesA s, 1, true⟩) : ∀ (k n0 i nx : Nat), s.size = i + k → k < n0 → 
    ∃ nx', F28_L1 call Y lf n0 s (some (px, 0)) s.size none (s.size : Int) (i : Int) h nx = some (.bool (((byts s).drop i).all okByte && decide (1 ≤ s.size) && decide (s.size ≤ 8)), h, nx') ∧ nx ≤ nx'
  | 0, n0 + 1, i, nx, hk, _ => by
    rw [F28_L1_eq, if_neg (by simp; omega), show (byts s).drop i = [] from List.drop_eq_nil_of_le (by rw [byts_len]; omega)]
    by_cases c : 1 ≤ s.size
    · rw [if_pos (by simp; omega)]
      exact ⟨nx + 10, by simp [c]; omega, by omega⟩
    · rw [if_neg (by simp; omega)]
      exact ⟨nx + 10, by simp [c], by omega⟩
  | k + 1, n0 + 1, i, nx, hk, hn => by
    have hi : i < (byts s).length := by rw [byts_len]; omega
    have hd : (byts s).drop i = (byts s)[i] :: (byts s).drop (i + 1) := List.drop_eq_getElem_cons hi
    have hget : (bytesA s)[0 + Int.toNat (i : Int) * 1]? = some (.int .u8 (byts s)[i]) := by
      rw [bytesA_ints, Int.toNat_natCast, Nat.zero_add]; exact ints_get hi
    rw [F28_L1_eq, if_pos (by simp; omega), some_bind, if_pos (by omega), ld_at hp hget]
    simp only [mst_, mst5_]
    rw [hd, List.all_cons]
    generalize hb : (byts s)[i] = b at *
    have go : ∀ nx, nx ≤ nx + 20 → okByte b = true → ∃ nx', F28_L1 call Y lf n0 s (some (px, 0)) s.size none (s.size : Int) (wrapA .i64 ((i : Int) + 1)) h (nx + 20) = some (.bool ((okByte b && ((byts s).drop (i + 1)).all okByte) && decide (1 ≤ s.size) && decide (s.size ≤ 8)), h, nx') ∧ nx ≤ nx' := fun nx _ ho => by
      rw [wsucc (by omega), ho, Bool.true_and]
      obtain ⟨nx', e, l⟩ := name_loop call Y lf s hs px h hp k n0 (i + 1) (nx + 20) (by omega) (by omega)
      exact ⟨nx', e, by omega⟩
    have no : ∀ nx, okByte b = false → ∃ nx', some ((AV.bool false), h, nx + 19) = some (.bool ((okByte b && ((byts s).drop (i + 1)).all okByte) && decide (1 ≤ s.size) && decide (s.size ≤ 8)), h, nx') ∧ nx ≤ nx' := fun nx ho => ⟨nx + 19, by rw [ho]; simp, by omega⟩
    by_cases c1 : b < 97
    · rw [if_pos (by simpa using c1)]
      by_cases c2 : b < 48
      · rw [if_pos (by simpa using c2)]; exact no nx (by simp [okByte]; omega)
      · rw [if_neg (by simpa using c2)]
        by_cases c3 : b > 57
        · rw [if_pos (by simpa using c3)]; exact no nx (by simp [okByte]; omega)
        · rw [if_neg (by simpa using c3)]; exact go nx (by omega) (by simp [okByte]; omega)
    · rw [if_neg (by simpa using c1)]
      by_cases c2 : b > 122
      · rw [if_pos (by simpa using c2), if_neg (by simp; omega), if_pos (by simp; omega)]; exact no nx (by simp [okByte]; omega)
      · rw [if_neg (by simpa using c2)]; exact go nx (by omega) (by simp [okByte]; omega)
theorem name_spec {n : Nat} (hn : 1010 ≤ n) (Y : YldF) {s : ByteArray} (hs : s.size ≤ 1000) (h : AHeap) (nx : Nat) : ∃ h' nx', callP Try.prog keepT n Y 28 [.str s] h nx = some (.bool (goodName s), h', nx') ∧ Ext h nx h' nx' := by
  obtain ⟨n, rfl⟩ : ∃ m, n = m + 1 := ⟨n - 1, by omega⟩
  rw [F28_eq]
  dsimp only
  obtain ⟨nx', e, l⟩ := name_loop (callP Try.prog keepT n) Y n s hs (nx + 2) _ (put_same h (nx + 2) (some ⟨bytesA s, 1, true⟩)) s.size n 0 (nx + 5) (by omega) (by omega)
  exact ⟨_, nx', e, (Ext.refl h nx).put (by omega) (by omega)⟩
end Go.Proofs.Ytncmdbpoceilgaa.T
