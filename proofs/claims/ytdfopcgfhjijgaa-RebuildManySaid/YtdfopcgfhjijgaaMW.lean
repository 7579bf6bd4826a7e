/- Slices of slices of one's own, whose rows are all different blocks: rows may be changed in place. Nothing of one program. -/
import Derived.Test.YtdfopcgfhjijgaaMT
set_option linter.unusedVariables false
set_option linter.unusedSimpArgs false
namespace Go.Proofs.Ytdfopcgfhjijgaa.T
open Go Go.RowKit

variable {R : Type} {h : AHeap}

def Dist (qs : List Rw) : Prop := qs.Pairwise fun p q => ∀ id, p.1 = some (id, 0) → q.1 ≠ some (id, 0)

def WMat (h : AHeap) (nx0 nx : Nat) (k : IntKind) (a : Option (Nat × Nat)) (M : List (List Nat)) (w : Nat) : Prop :=
  ∃ qs, RowsOwn h nx0 nx k w qs M ∧ OwnSl h nx0 nx a M.length 1 (qs.map (rcell w)) ∧ (∀ q ∈ qs, ∀ id, q.1 = some (id, 0) → a ≠ some (id, 0)) ∧ Dist qs
theorem WMat.own {nx0 nx w : Nat} {k : IntKind} {a : Option (Nat × Nat)} {M : List (List Nat)} (m : WMat h nx0 nx k a M w) : OwnMat h nx0 nx k a M w := by
  obtain ⟨qs, r, s, n, _⟩ := m
  exact ⟨qs, r, s, n⟩
theorem WMat.mat {nx0 nx w : Nat} {k : IntKind} {a : Option (Nat × Nat)} {M : List (List Nat)} (m : WMat h nx0 nx k a M w) : Mat h nx k a M w := m.own.mat
theorem RowsOwn.from {n1 nx0 nx w : Nat} {k : IntKind} (l : nx0 ≤ n1) : ∀ {qs : List Rw} {M : List (List Nat)}, RowsOwn h n1 nx k w qs M → RowsOwn h nx0 nx k w qs M
  | [], [], _ => trivial
  | q :: qs, r :: M, a => ⟨⟨a.1.1, a.1.2.imp id fun ⟨i, e1, e2, e3, e4⟩ => ⟨i, e1, by omega, e3, e4⟩⟩, RowsOwn.from l a.2⟩
  | [], _ :: _, a => a.elim
  | _ :: _, [], a => a.elim
theorem WMat.from {n1 nx0 nx w : Nat} {k : IntKind} {a : Option (Nat × Nat)} {M : List (List Nat)} (m : WMat h n1 nx k a M w) (l : nx0 ≤ n1) : WMat h nx0 nx k a M w := by
  obtain ⟨qs, r, s, n, d⟩ := m
  exact ⟨qs, r.from l, s.from l, n, d⟩
theorem WMat.nil (h : AHeap) (nx0 nx w : Nat) (k : IntKind) : WMat h nx0 nx k none [] w := ⟨[], trivial, OwnSl.nil _ _ _ _, (fun q hq => by cases hq), List.Pairwise.nil⟩
theorem WMat.ext {h' : AHeap} {nx0 nx nx' w : Nat} {k : IntKind} {a : Option (Nat × Nat)} {M : List (List Nat)} (m : WMat h nx0 nx k a M w) (x : Ext h nx h' nx') : WMat h' nx0 nx' k a M w := by
  obtain ⟨qs, r, s, n, d⟩ := m
  exact ⟨qs, r.keep x.1 (fun _ _ id _ hl => x.2 id hl), s.ext x, n, d⟩

/-- A new row of one's own is pushed. -/
theorem WMat.pushAt {h1 h2 : AHeap} {nx0 n1 n2 n3 w : Nat} {k : IntKind} {a : Option (Nat × Nat)} {M : List (List Nat)} (m : WMat h1 nx0 n1 k a M w) (x : Ext h1 n1 h2 n2) {c : Bool} {bytes id id2 : Nat} {q : Rw} {r : List Nat} (hq : RowOwn h2 n1 n2 k w q r) (hf : ∀ j, q.1 = some (j, 0) → j ≠ id ∧ j ≠ id2) (hg : growOk (M.length + 1) bytes = true) (hn : nx0 ≤ n1) (hid : n1 ≤ id) (hid2 : id < id2) (h3 : id2 < n3) (h23 : n2 ≤ n3) :
    ∃ e, appD (h2.put id (some ⟨[.slice q.1 w q.2], 1, true⟩)) a M.length c 1 bytes id2 (1, [.slice q.1 w q.2], [id]) = some e ∧ e.n = M.length + 1 ∧ WMat ((h2.put id (some ⟨[.slice q.1 w q.2], 1, true⟩)).puts e.sets) nx0 n3 k e.a (M ++ [r]) w ∧ Ext h1 nx0 ((h2.put id (some ⟨[.slice q.1 w q.2], 1, true⟩)).puts e.sets) n3 := by
  obtain ⟨qs, ro1, s1, nn, dd⟩ := m
  have y := x.1
  have x' : Ext h1 n1 h2 n1 := ⟨Nat.le_refl _, x.2⟩
  have ro : RowsOwn h2 nx0 n1 k w qs M := ro1.keep (Nat.le_refl _) (fun _ _ id _ hl => x.2 id hl)
  have s := s1.ext x'
  have fresh : ∀ id', q.1 = some (id', 0) → n1 ≤ id' ∧ id' < n2 := by
    intro id' e1
    obtain ⟨_, ⟨e2, _⟩ | ⟨i, e2, l0, l1, _⟩⟩ := hq
    · rw [e2] at e1; cases e1
    · rw [e2] at e1
      obtain rfl : i = id' := by simpa using e1
      exact ⟨l0, l1⟩
  have hne : ∀ id', q.1 = some (id', 0) → a ≠ some (id', 0) := by
    intro id' e1 ha
    have f := fresh id' e1
    rcases s1.2 with ⟨e2, _⟩ | ⟨i, e2, _, e3, _⟩
    · rw [e2] at ha; cases ha
    · rw [e2] at ha
      obtain rfl : i = id' := by simpa using ha
      omega
  obtain ⟨e, f1, f2, f3, f4⟩ := s.push (c := c) (bytes := bytes) (id := id) (id2 := id2) (ws := [.slice q.1 w q.2]) rfl hg hn hid hid2
  have s' : OwnSl (h2.put id (some ⟨[.slice q.1 w q.2], 1, true⟩)) nx0 (id + 1) a M.length 1 (qs.map (rcell w)) := s.put hid (by omega)
  have ids := s'.append_ids2 f1
  have keep : ∀ j, a ≠ some (j, 0) → j ≠ id → j ≠ id2 → ((h2.put id (some ⟨[.slice q.1 w q.2], 1, true⟩)).puts e.sets) j = h2 j := by
    intro j hj0 hj hj2
    rw [puts_get, put_ne hj]
    intro hx
    rcases ids j hx with e1 | e1
    · exact hj2 e1
    · exact hj0 e1
  have hq' : RowOwn ((h2.put id (some ⟨[.slice q.1 w q.2], 1, true⟩)).puts e.sets) nx0 n3 k w q r := by
    obtain ⟨a1, a2 | ⟨i, e2, l0, l1, b⟩⟩ := hq
    · exact ⟨a1, .inl a2⟩
    · have := hf i e2
      exact ⟨a1, .inr ⟨i, e2, by omega, by omega, (keep i (hne i e2) this.1 this.2).trans b⟩⟩
  refine ⟨e, f1, f2, ⟨qs ++ [q], (ro.keep (by omega) fun p hp id e1 hl => keep id (nn p hp id e1) (by omega) (by omega)).snoc hq', ?_, ?_, ?_⟩, ((x.from hn).then (f4.le (by omega)))⟩
  · rw [List.length_append, List.length_cons, List.length_nil, List.map_append]
    exact f3.le (by omega)
  · intro p hp id' e1
    rw [appD_a f1 (by omega)]
    have : id' ≠ id2 := by
      rcases List.mem_append.1 hp with hp | hp
      · have := (ro.mem p hp id' 0 e1).2
        omega
      · simp at hp; subst hp
        exact (hf id' e1).2
    intro e2
    have : id2 = id' := by simpa using e2
    omega
  · refine List.pairwise_append.2 ⟨dd, List.pairwise_singleton _ _, fun p hp p' hp' id' e1 e2 => ?_⟩
    simp at hp'; subst hp'
    have := (ro1.mem p hp id' 0 e1).2
    have := fresh id' e2
    omega

theorem WMat.pushNew {h1 h2 : AHeap} {nx0 n1 n2 w : Nat} {k : IntKind} {a : Option (Nat × Nat)} {M : List (List Nat)} (m : WMat h1 nx0 n1 k a M w) (x : Ext h1 n1 h2 n2) {c : Bool} {bytes id id2 : Nat} {q : Rw} {r : List Nat} (hq : RowOwn h2 n1 n2 k w q r) (hg : growOk (M.length + 1) bytes = true) (hn : nx0 ≤ n1) (hid : n2 ≤ id) (hid2 : id < id2) :
    ∃ e, appD (h2.put id (some ⟨[.slice q.1 w q.2], 1, true⟩)) a M.length c 1 bytes id2 (1, [.slice q.1 w q.2], [id]) = some e ∧ e.n = M.length + 1 ∧ WMat ((h2.put id (some ⟨[.slice q.1 w q.2], 1, true⟩)).puts e.sets) nx0 (id2 + 1) k e.a (M ++ [r]) w ∧ Ext h1 nx0 ((h2.put id (some ⟨[.slice q.1 w q.2], 1, true⟩)).puts e.sets) (id2 + 1) := by
  refine m.pushAt x hq (fun j e1 => ?_) hg hn (by have := x.1; omega) hid2 (by omega) (by omega)
  obtain ⟨_, ⟨e2, _⟩ | ⟨i, e2, l0, l1, _⟩⟩ := hq
  · rw [e2] at e1; cases e1
  · rw [e2] at e1
    obtain rfl : i = j := by simpa using e1
    omega

theorem RowsOwn.setRow {h' : AHeap} {nx0 nx w ri : Nat} {k : IntKind} {r' : List Nat} (hr : r'.length = w) (hb : h' ri = some ⟨ints k (nints r'), 1, true⟩) (hk : ∀ j, j ≠ ri → h' j = h j) (l0 : nx0 ≤ ri) (l1 : ri < nx) : ∀ {qs : List Rw} {M : List (List Nat)}, RowsOwn h nx0 nx k w qs M → Dist qs → ∀ {i : Nat} {q : Rw}, qs[i]? = some q → q.1 = some (ri, 0) → RowsOwn h' nx0 nx k w qs (M.set i r')
  | [], [], _, _, i, q, e, _ => by simp at e
  | p :: qs, r :: M, a, d, i, q, e, e1 => by
    have d := List.pairwise_cons.1 d
    cases i with
    | zero =>
      obtain rfl : p = q := by simpa using e
      refine ⟨⟨hr, .inr ⟨ri, e1, l0, l1, hb⟩⟩, a.2.keep (Nat.le_refl _) fun q' hq' id e2 _ => hk id ?_⟩
      rintro rfl
      exact d.1 q' hq' id e1 e2
    | succ i =>
      have e' : qs[i]? = some q := by simpa using e
      refine ⟨a.1.keep (Nat.le_refl _) fun id e2 _ => hk id ?_, RowsOwn.setRow hr hb hk l0 l1 a.2 d.2 e' e1⟩
      rintro rfl
      exact d.1 q (List.mem_of_getElem? e') id e2 e1
  | [], _ :: _, a, _, _, _, _, _ => a.elim
  | _ :: _, [], a, _, _, _, _, _ => a.elim

theorem RowsOwn.getO {nx0 nx w : Nat} {k : IntKind} : ∀ {qs : List Rw} {M : List (List Nat)} (_ : RowsOwn h nx0 nx k w qs M) {i : Nat} (hi : i < M.length), ∃ q, qs[i]? = some q ∧ RowOwn h nx0 nx k w q M[i]
  | [], [], _, i, hi => by simp at hi
  | q :: qs, r :: M, a, i, hi => by
    cases i with
    | zero => exact ⟨q, rfl, a.1⟩
    | succ i =>
      obtain ⟨q', e1, e2⟩ := RowsOwn.getO a.2 (i := i) (by simpa using hi)
      exact ⟨q', by simpa using e1, e2⟩
  | [], _ :: _, a, _, _ => a.elim
  | _ :: _, [], a, _, _ => a.elim

/-- Row i of one's own: it is read, and it may be changed. -/
theorem WMat.row {nx0 nx w : Nat} {k : IntKind} {a : Option (Nat × Nat)} {M : List (List Nat)} (m : WMat h nx0 nx k a M w) (hw : 1 ≤ w) {i : Nat} (hi : i < M.length) :
    ∃ (ri : Nat) (c : Bool), M[i].length = w ∧ nx0 ≤ ri ∧ ri < nx ∧ h ri = some ⟨ints k (nints M[i]), 1, true⟩ ∧
      (∀ K : AV → Option R, (a.bind fun p => if 0 ≤ (i : Int) ∧ (i : Int) < ((M.length : Nat) : Int) then (ldA h p.1 (p.2 + Int.toNat (i : Int) * 1)).bind K else none) = K (.slice (some (ri, 0)) w c)) ∧
      ∀ r' : List Nat, r'.length = w → WMat (h.put ri (some ⟨ints k (nints r'), 1, true⟩)) nx0 nx k a (M.set i r') w := by
  obtain ⟨qs, ro, s, nn, d⟩ := m
  obtain ⟨⟨q1, q2⟩, e1, w1, ⟨_, z⟩ | ⟨ri, e2, l0, l1, b⟩⟩ := ro.getO hi
  · omega
  obtain rfl : q1 = some (ri, 0) := e2
  refine ⟨ri, q2, w1, l0, l1, b, fun K => s.sl.read0 (by omega) (by omega) (by omega) (v := rcell w (some (ri, 0), q2)) ?_ K, fun r' hr' => ⟨qs, ?_, ?_, nn, d⟩⟩
  · rw [Int.toNat_natCast, Nat.mul_one, List.getElem?_map, e1]; rfl
  · exact ro.setRow hr' (put_same _ _ _) (fun j hj => put_ne hj) l0 l1 d e1 rfl
  · rw [List.length_set]
    refine ⟨s.1, s.2.imp id fun ⟨i2, f1, f2, f3, f4⟩ => ⟨i2, f1, f2, f3, ?_⟩⟩
    rw [put_ne, f4]
    rintro rfl
    exact nn _ (List.mem_of_getElem? e1) i2 rfl f1

end Go.Proofs.Ytdfopcgfhjijgaa.T
