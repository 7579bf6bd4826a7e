/- For specifications over the machine: heaps, slices. Nothing of one program. -/
import Derived.Test.YtahilinkfnchaaaDoorTH
set_option linter.unusedVariables false
set_option linter.unusedSimpArgs false
namespace Go.Proofs.YtahilinkfnchaaaDoor.T
open Go Go.RowKit

variable {R : Type} {h : AHeap}

@[simp] theorem put_same (h : AHeap) (i : Nat) (b : Option ABlk) : (AHeap.put h i b) i = b := by simp [AHeap.put]
theorem put_ne {h : AHeap} {i j : Nat} {b : Option ABlk} (e : j ≠ i) : (AHeap.put h i b) j = h j := by simp [AHeap.put, e]
@[simp] theorem puts_nil (h : AHeap) : h.puts [] = h := rfl
@[simp] theorem puts_cons (h : AHeap) (i : Nat) (b : Option ABlk) (l : List (Nat × Option ABlk)) : h.puts ((i, b) :: l) = (h.put i b).puts l := rfl

theorem ldA_at {i o : Nat} {b : ABlk} {v : AV} (hb : h i = some b) (hv : b.cells[o]? = some v) (hm : mapB b = false := by rfl) : ldA h i o = some v := by simp [ldA, hb, hv, hm]
theorem ldR_at {i o n : Nat} {b : ABlk} (hb : h i = some b) (hv : o + n ≤ b.cells.length) (hm : mapB b = false := by rfl) : ldR h i o n = some ((b.cells.drop o).take n) := by simp [ldR, hb, hv, hm]
theorem stA_at {i o n : Nat} {b : ABlk} {v : AV} (hb : h i = some b) (hv : storeOk b o v n = true) : stA h i o v n = some ⟨splice b.cells o v.cells, b.es, true⟩ := by simp [stA, hb, hv]

/-! ### steps of a print, proved so that the kernel need not compare what follows -/
theorem bind_some' {α β : Type} (a : α) (f : α → Option β) : (some a).bind f = f a := by simp
theorem asI_int (k : IntKind) (n : Int) : asI k (.int k n) = some n := by simp [asI]
theorem asB_bool (b : Bool) : asB (.bool b) = some b := by simp [asB]
theorem asStr_str (b : ByteArray) : asStr (.str b) = some b := by simp [asStr]
theorem asP_ptr (b : Option (Nat × Nat)) : asP (.ptr b) = some b := by simp [asP]
theorem asSl_sl (a : Option (Nat × Nat)) (n : Nat) (c : Option Nat) : asSl (.slice a n c) = some (a, n, c) := by simp [asSl]
theorem asAgg_mk {n : Nat} {cs : List AV} (h : cs.length = n) : asAgg n (.agg cs) = some cs := by simp [asAgg, h]
theorem asAgg_1 (a : AV) : asAgg 1 (.agg [a]) = some [a] := asAgg_mk (by simp)
theorem asAgg_2 (a b : AV) : asAgg 2 (.agg [a, b]) = some [a, b] := asAgg_mk (by simp)
theorem asAgg_3 (a b c : AV) : asAgg 3 (.agg [a, b, c]) = some [a, b, c] := asAgg_mk (by simp)
theorem asAgg_4 (a b c d : AV) : asAgg 4 (.agg [a, b, c, d]) = some [a, b, c, d] := asAgg_mk (by simp)
theorem asTup_mk {n : Nat} {cs : List AV} (h : cs.length = n) : asTup n (.tuple cs) = some cs := by simp [asTup, h]
theorem asTup_0 : asTup 0 (.tuple []) = some [] := asTup_mk (by simp)
theorem asTup_2 (a b : AV) : asTup 2 (.tuple [a, b]) = some [a, b] := asTup_mk (by simp)
theorem asTup_3 (a b c : AV) : asTup 3 (.tuple [a, b, c]) = some [a, b, c] := asTup_mk (by simp)
theorem asTup_4 (a b c d : AV) : asTup 4 (.tuple [a, b, c, d]) = some [a, b, c, d] := asTup_mk (by simp)
theorem if_true' {α : Type} (a b : α) : (if true = true then a else b) = a := by simp
theorem if_false' {α : Type} (a b : α) : (if false = true then a else b) = b := by simp
theorem if_not_true' {α : Type} (a b : α) : (if (!true) = true then a else b) = b := by simp
theorem if_not_false' {α : Type} (a b : α) : (if (!false) = true then a else b) = a := by simp
theorem getD_0 (a b : AV) (l : List AV) : (a :: l).getD 0 b = a := by simp
theorem getD_1 (a b c : AV) (l : List AV) : (a :: b :: l).getD 1 c = b := by simp
theorem getD_2 (a b c d : AV) (l : List AV) : (a :: b :: c :: l).getD 2 d = c := by simp
theorem getD_3 (a b c d e : AV) (l : List AV) : (a :: b :: c :: d :: l).getD 3 e = d := by simp
/-- The steps, together (texts that are handed in name this one). -/
theorem mst_ : (∀ {α β : Type} (a : α) (f : α → Option β), (some a).bind f = f a) ∧ (∀ (k : IntKind) (n : Int), asI k (.int k n) = some n) ∧ (∀ b : Bool, asB (.bool b) = some b) ∧ (∀ b : ByteArray, asStr (.str b) = some b) ∧ (∀ b : Option (Nat × Nat), asP (.ptr b) = some b) ∧ (∀ (a : Option (Nat × Nat)) (n : Nat) (c : Option Nat), asSl (.slice a n c) = some (a, n, c)) ∧
    (∀ a, asAgg 1 (.agg [a]) = some [a]) ∧ (∀ a b, asAgg 2 (.agg [a, b]) = some [a, b]) ∧ (∀ a b c, asAgg 3 (.agg [a, b, c]) = some [a, b, c]) ∧ (∀ a b c d, asAgg 4 (.agg [a, b, c, d]) = some [a, b, c, d]) ∧ asTup 0 (.tuple []) = some [] ∧ (∀ a b, asTup 2 (.tuple [a, b]) = some [a, b]) ∧ (∀ a b c, asTup 3 (.tuple [a, b, c]) = some [a, b, c]) ∧ (∀ a b c d, asTup 4 (.tuple [a, b, c, d]) = some [a, b, c, d]) ∧
    (∀ {α : Type} (a b : α), (if true = true then a else b) = a) ∧ (∀ {α : Type} (a b : α), (if false = true then a else b) = b) ∧ (∀ {α : Type} (a b : α), (if (!true) = true then a else b) = b) ∧ (∀ {α : Type} (a b : α), (if (!false) = true then a else b) = a) ∧
    (∀ (a b : AV) (l : List AV), (a :: l).getD 0 b = a) ∧ (∀ (a b c : AV) (l : List AV), (a :: b :: l).getD 1 c = b) ∧ (∀ (a b c d : AV) (l : List AV), (a :: b :: c :: l).getD 2 d = c) ∧ (∀ (a b c d e : AV) (l : List AV), (a :: b :: c :: d :: l).getD 3 e = d) :=
  ⟨bind_some', asI_int, asB_bool, asStr_str, asP_ptr, asSl_sl, asAgg_1, asAgg_2, asAgg_3, asAgg_4, asTup_0, asTup_2, asTup_3, asTup_4, if_true', if_false', if_not_true', if_not_false', getD_0, getD_1, getD_2, getD_3⟩

/-- The heap has what it had below nx. -/
def Ext (h : AHeap) (nx : Nat) (h' : AHeap) (nx' : Nat) : Prop := nx ≤ nx' ∧ ∀ i, i < nx → h' i = h i
theorem Ext.refl (h : AHeap) (nx : Nat) : Ext h nx h nx := ⟨Nat.le_refl _, fun _ _ => rfl⟩
theorem Ext.le {h h' : AHeap} {n m m' : Nat} (e : Ext h n h' m) (l : m ≤ m') : Ext h n h' m' := ⟨by have := e.1; omega, e.2⟩
theorem Ext.trans {h h1 h2 : AHeap} {n n1 n2 : Nat} (a : Ext h n h1 n1) (b : Ext h1 n1 h2 n2) : Ext h n h2 n2 := ⟨by have := a.1; have := b.1; omega, fun i hi => (b.2 i (by have := a.1; omega)).trans (a.2 i hi)⟩
theorem Ext.put {h h' : AHeap} {n m i m' : Nat} {b : Option ABlk} (e : Ext h n h' m) (hi : n ≤ i) (l : m ≤ m') : Ext h n (h'.put i b) m' := ⟨by have := e.1; omega, fun j hj => (put_ne (by omega)).trans (e.2 j hj)⟩

/-- A slice that holds cells. -/
def Sl (h : AHeap) (nx : Nat) (a : Option (Nat × Nat)) (n es : Nat) (vs : List AV) : Prop :=
  vs.length = n * es ∧ ∀ j, j < n → ∃ p b, a = some p ∧ p.1 < nx ∧ h p.1 = some b ∧ b.es = es ∧ p.2 + n * es ≤ b.cells.length ∧ ∀ q, q < n * es → b.cells[p.2 + q]? = vs[q]?

theorem Sl.ext {h h' : AHeap} {nx nx' : Nat} {a : Option (Nat × Nat)} {n es : Nat} {vs : List AV} (s : Sl h nx a n es vs) (e : Ext h nx h' nx') : Sl h' nx' a n es vs :=
  ⟨s.1, fun j hj => by
    obtain ⟨p, b, e1, e2, e3, r⟩ := s.2 j hj
    exact ⟨p, b, e1, by have := e.1; omega, (e.2 _ e2).trans e3, r⟩⟩

/-- Reading cell f of element i. -/
theorem Sl.read {nx : Nat} {a : Option (Nat × Nat)} {n es : Nat} {vs : List AV} (s : Sl h nx a n es vs) {i : Int} {f : Nat} (h0 : 0 ≤ i) (h1 : i < n) (hf : f < es) {v : AV} (hv : vs[i.toNat * es + f]? = some v) (K : AV → Option R) (hm : Nat.beq es MB = false := by rfl) :
    (a.bind fun p => if 0 ≤ i ∧ i < (n : Int) then (ldA h p.1 (p.2 + i.toNat * es + f)).bind K else none) = K v := by
  obtain ⟨p, b, rfl, _, e3, e4, _, hq⟩ := s.2 i.toNat (by omega)
  have hlt : i.toNat * es + f < n * es := by
    have : i.toNat + 1 ≤ n := by omega
    calc i.toNat * es + f < i.toNat * es + es := by omega
      _ = (i.toNat + 1) * es := by rw [Nat.add_mul, Nat.one_mul]
      _ ≤ n * es := Nat.mul_le_mul_right _ this
  have := hq _ hlt
  rw [← Nat.add_assoc, hv] at this
  rw [Option.bind_some, if_pos ⟨h0, h1⟩, ldA_at e3 this (mapB_of e4 hm), Option.bind_some]
theorem Sl.read0 {nx : Nat} {a : Option (Nat × Nat)} {n es : Nat} {vs : List AV} (s : Sl h nx a n es vs) {i : Int} (h0 : 0 ≤ i) (h1 : i < n) (hf : 0 < es) {v : AV} (hv : vs[i.toNat * es]? = some v) (K : AV → Option R) (hm : Nat.beq es MB = false := by rfl) :
    (a.bind fun p => if 0 ≤ i ∧ i < (n : Int) then (ldA h p.1 (p.2 + i.toNat * es)).bind K else none) = K v :=
  s.read (f := 0) h0 h1 hf (by simpa using hv) K hm

/-- A slice that one has oneself made since nx0, alone. -/
def OwnSl (h : AHeap) (nx0 nx : Nat) (a : Option (Nat × Nat)) (n es : Nat) (vs : List AV) : Prop :=
  vs.length = n * es ∧ ((a = none ∧ n = 0) ∨ ∃ i, a = some (i, 0) ∧ nx0 ≤ i ∧ i < nx ∧ h i = some ⟨vs, es, true⟩)

theorem OwnSl.nil (h : AHeap) (nx0 nx es : Nat) : OwnSl h nx0 nx none 0 es [] := ⟨by simp, .inl ⟨rfl, rfl⟩⟩
theorem OwnSl.sl {nx0 nx : Nat} {a : Option (Nat × Nat)} {n es : Nat} {vs : List AV} (s : OwnSl h nx0 nx a n es vs) : Sl h nx a n es vs :=
  ⟨s.1, fun j hj => by
    rcases s.2 with ⟨_, e⟩ | ⟨i, rfl, _, hlt, e⟩
    · omega
    · exact ⟨(i, 0), _, rfl, hlt, e, rfl, by simp [s.1], fun q _ => by simp⟩⟩

theorem growOk_of {n b : Nat} (h1 : n ≤ 1000000000) (h2 : b ≤ 1024) : growOk n b = true := by
  unfold growOk
  have : (n + n / 4 + 192) * b ≤ (n + n / 4 + 192) * 1024 := Nat.mul_le_mul_left _ h2
  simp only [Bool.and_eq_true, decide_eq_true_eq]
  omega

theorem OwnSl.append {nx0 nx : Nat} {a : Option (Nat × Nat)} {n es : Nat} {vs : List AV} (s : OwnSl h nx0 nx a n es vs) {c : Option Nat} {bytes id k : Nat} {ws : List AV} {rd : List Nat} (hk : k ≠ 0) (hw : ws.length = k * es) (hg : growOk (n + k) bytes = true) (h0 : nx0 ≤ nx) (hid : nx ≤ id) :
    ∃ e, appD h a n c es bytes id (k, ws, rd) = some e ∧ e.n = n + k ∧ OwnSl (h.puts e.sets) nx0 (id + 1) e.a (n + k) es (vs ++ ws) ∧ Ext h nx0 (h.puts e.sets) (id + 1) := by
  have hl : (vs ++ ws).length = (n + k) * es := by rw [List.length_append, s.1, hw, Nat.add_mul]
  rcases s.2 with ⟨rfl, rfl⟩ | ⟨i, rfl, hi0, hi1, e⟩
  · have : vs = [] := by have := s.1; simp at this; exact this
    subst this
    refine ⟨⟨some (id, 0), 0 + k, none, [(id, some ⟨ws, es, true⟩)], rd⟩, by simp only [appD, if_neg hk, if_pos hg], rfl, ⟨hl, .inr ⟨id, rfl, by omega, by omega, by simp⟩⟩, ?_⟩
    exact ⟨by omega, fun j hj => by simp only [puts_cons, puts_nil]; exact put_ne (by omega)⟩
  · have ec : (([] : List AV) = [] ∧ es = es) := ⟨rfl, rfl⟩
    have hc : (({ cells := vs, es := es, own := true } : ABlk).es == es && decide (0 + n * es ≤ vs.length)) = true := by simp [s.1]
    have htk : (vs.drop 0).take (n * es) = vs := by rw [List.drop_zero, ← s.1, List.take_length]
    by_cases cl : capLt c (n + k) = true
    · refine ⟨⟨some (id, 0), n + k, none, [(id, some ⟨vs ++ ws, es, true⟩)], i :: rd⟩, ?_, rfl, ⟨hl, .inr ⟨id, rfl, by omega, by omega, by simp⟩⟩, ⟨by omega, fun j hj => by simp only [puts_cons, puts_nil]; exact put_ne (by omega)⟩⟩
      simp only [appD, if_neg hk, if_pos hg, e, Option.bind_some, if_pos hc, if_pos cl, htk]
    · by_cases ci : capIn c (n + k) (0 + (n + k) * es) vs.length = true
      · refine ⟨⟨some (i, 0), n + k, c, [(i, some ⟨vs ++ ws, es, true⟩)], i :: rd⟩, ?_, rfl, ⟨hl, .inr ⟨i, rfl, hi0, by omega, by simp⟩⟩, ⟨by omega, fun j hj => by simp only [puts_cons, puts_nil]; exact put_ne (by omega)⟩⟩
        have hsp : splice vs (0 + n * es) ws = vs ++ ws := by
          unfold splice
          rw [Nat.zero_add, ← s.1, List.take_length, List.drop_of_length_le (by omega), List.append_nil]
        simp only [appD, if_neg hk, if_pos hg, e, Option.bind_some, if_pos hc, if_neg cl, if_pos ci, hsp]
        rfl
      · refine ⟨⟨some (id, 0), n + k, none, [(i, none), (id, some ⟨vs ++ ws, es, true⟩)], i :: rd⟩, ?_, rfl, ⟨hl, .inr ⟨id, rfl, by omega, by omega, by simp⟩⟩, ⟨by omega, fun j hj => by simp only [puts_cons, puts_nil]; rw [put_ne (by omega), put_ne (by omega)]⟩⟩
        simp only [appD, if_neg hk, if_pos hg, e, Option.bind_some, if_pos hc, if_neg cl, if_neg ci, htk]
        rfl

end Go.Proofs.YtahilinkfnchaaaDoor.T
