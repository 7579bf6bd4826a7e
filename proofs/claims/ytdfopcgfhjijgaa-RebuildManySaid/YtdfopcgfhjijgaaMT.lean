/- Slices of slices of numbers on the machine. Nothing of one program. -/
import Derived.Test.YtdfopcgfhjijgaaTK
set_option linter.unusedVariables false
set_option linter.unusedSimpArgs false
namespace Go.Proofs.Ytdfopcgfhjijgaa.T
open Go Go.RowKit

variable {R : Type} {h : AHeap}

def nints (l : List Nat) : List Int := l.map fun (c : Nat) => (c : Int)
theorem nints_len (l : List Nat) : (nints l).length = l.length := by simp [nints]
theorem nints_get {l : List Nat} {i : Nat} (hi : i < l.length) : (nints l)[i]'(by rw [nints_len]; exact hi) = ((l[i] : Nat) : Int) := by simp [nints]
/-- Reading number i of a slice of naturals. -/
theorem Sl.readN {nx : Nat} {a : Option (Nat × Nat)} {k : IntKind} {l : List Nat} {n : Nat} (s : Sl h nx a n 1 (ints k (nints l))) (hn : l.length = n) {i : Nat} (hi : i < l.length) (K : AV → Option R) :
    (a.bind fun p => if 0 ≤ (i : Int) ∧ (i : Int) < ((n : Nat) : Int) then (ldA h p.1 (p.2 + Int.toNat (i : Int) * 1)).bind K else none) = K (.int k ((l[i] : Nat) : Int)) := by
  subst hn
  exact s.read0 (by omega) (by omega) (by omega) (by rw [Int.toNat_natCast, Nat.mul_one]; simp [ints, nints, List.getElem?_eq_getElem hi]) K
abbrev Rw := Option (Nat × Nat) × Bool
def rcell (w : Nat) (q : Rw) : AV := .slice q.1 w q.2

def RowsAt (h : AHeap) (nx : Nat) (k : IntKind) (w : Nat) : List Rw → List (List Nat) → Prop
  | [], [] => True
  | q :: qs, r :: M => (r.length = w ∧ Sl h nx q.1 w 1 (ints k (nints r))) ∧ RowsAt h nx k w qs M
  | _, _ => False
theorem RowsAt.length {nx w : Nat} {k : IntKind} : ∀ {qs : List Rw} {M : List (List Nat)}, RowsAt h nx k w qs M → qs.length = M.length
  | [], [], _ => rfl
  | q :: qs, r :: M, a => by simp [RowsAt.length a.2]
  | [], _ :: _, a => a.elim
  | _ :: _, [], a => a.elim
theorem RowsAt.get {nx w : Nat} {k : IntKind} : ∀ {qs : List Rw} {M : List (List Nat)} (_ : RowsAt h nx k w qs M) {i : Nat} (hi : i < M.length), ∃ q, qs[i]? = some q ∧ M[i].length = w ∧ Sl h nx q.1 w 1 (ints k (nints M[i]))
  | [], [], _, i, hi => by simp at hi
  | q :: qs, r :: M, a, i, hi => by
    cases i with
    | zero => exact ⟨q, rfl, a.1.1, a.1.2⟩
    | succ i =>
      obtain ⟨q', e1, e2⟩ := RowsAt.get a.2 (i := i) (by simpa using hi)
      exact ⟨q', by simpa using e1, e2⟩
  | [], _ :: _, a, _, _ => a.elim
  | _ :: _, [], a, _, _ => a.elim
theorem RowsAt.ext {h' : AHeap} {nx nx' w : Nat} {k : IntKind} (x : Ext h nx h' nx') : ∀ {qs : List Rw} {M : List (List Nat)}, RowsAt h nx k w qs M → RowsAt h' nx' k w qs M
  | [], [], _ => trivial
  | q :: qs, r :: M, a => ⟨⟨a.1.1, a.1.2.ext x⟩, RowsAt.ext x a.2⟩
  | [], _ :: _, a => a.elim
  | _ :: _, [], a => a.elim

/-- A slice of slices, all as long. -/
def Mat (h : AHeap) (nx : Nat) (k : IntKind) (a : Option (Nat × Nat)) (M : List (List Nat)) (w : Nat) : Prop :=
  ∃ qs, RowsAt h nx k w qs M ∧ Sl h nx a M.length 1 (qs.map (rcell w))
theorem Mat.ext {h' : AHeap} {nx nx' w : Nat} {k : IntKind} {a : Option (Nat × Nat)} {M : List (List Nat)} (m : Mat h nx k a M w) (x : Ext h nx h' nx') : Mat h' nx' k a M w := by
  obtain ⟨qs, r, s⟩ := m
  exact ⟨qs, r.ext x, s.ext x⟩
/-- Row i is read. -/
theorem Mat.row {nx w : Nat} {k : IntKind} {a : Option (Nat × Nat)} {M : List (List Nat)} (m : Mat h nx k a M w) {i : Nat} (hi : i < M.length) :
    ∃ q : Rw, M[i].length = w ∧ Sl h nx q.1 w 1 (ints k (nints M[i])) ∧ ∀ K : AV → Option R, (a.bind fun p => if 0 ≤ (i : Int) ∧ (i : Int) < ((M.length : Nat) : Int) then (ldA h p.1 (p.2 + Int.toNat (i : Int) * 1)).bind K else none) = K (.slice q.1 w q.2) := by
  obtain ⟨qs, r, s⟩ := m
  obtain ⟨q, e1, e2, e3⟩ := r.get hi
  refine ⟨q, e2, e3, fun K => s.read0 (by omega) (by omega) (by omega) (v := rcell w q) ?_ K⟩
  rw [Int.toNat_natCast, Nat.mul_one, List.getElem?_map, e1]; rfl

/-! ### one's own -/
def RowOwn (h : AHeap) (nx0 nx : Nat) (k : IntKind) (w : Nat) (q : Rw) (r : List Nat) : Prop :=
  r.length = w ∧ ((q.1 = none ∧ w = 0) ∨ ∃ id, q.1 = some (id, 0) ∧ nx0 ≤ id ∧ id < nx ∧ h id = some ⟨ints k (nints r), 1, true⟩)
def RowsOwn (h : AHeap) (nx0 nx : Nat) (k : IntKind) (w : Nat) : List Rw → List (List Nat) → Prop
  | [], [] => True
  | q :: qs, r :: M => RowOwn h nx0 nx k w q r ∧ RowsOwn h nx0 nx k w qs M
  | _, _ => False
theorem RowOwn.sl {nx0 nx w : Nat} {k : IntKind} {q : Rw} {r : List Nat} (a : RowOwn h nx0 nx k w q r) : Sl h nx q.1 w 1 (ints k (nints r)) := by
  obtain ⟨a1, ⟨e, rfl⟩ | ⟨id, e, l0, l1, b⟩⟩ := a
  · exact ⟨by simp [ints, nints, a1], fun j hj => by omega⟩
  · exact ⟨by simp [ints, nints, a1], fun j hj => ⟨(id, 0), _, e, l1, b, rfl, by simp [ints, nints, a1], fun q hq => by simp⟩⟩
theorem RowsOwn.rows {nx0 nx w : Nat} {k : IntKind} : ∀ {qs : List Rw} {M : List (List Nat)}, RowsOwn h nx0 nx k w qs M → RowsAt h nx k w qs M
  | [], [], _ => trivial
  | q :: qs, r :: M, a => ⟨⟨a.1.1, a.1.sl⟩, RowsOwn.rows a.2⟩
  | [], _ :: _, a => a.elim
  | _ :: _, [], a => a.elim
theorem RowsOwn.mem {nx0 nx w : Nat} {k : IntKind} : ∀ {qs : List Rw} {M : List (List Nat)}, RowsOwn h nx0 nx k w qs M → ∀ q ∈ qs, ∀ id o, q.1 = some (id, o) → nx0 ≤ id ∧ id < nx
  | [], [], _, q, hq, _, _, _ => by cases hq
  | q :: qs, r :: M, a, q', hq, id, o, e => by
    cases hq with
    | head =>
      obtain ⟨a1, ⟨e1, _⟩ | ⟨i, e1, l0, l1, b⟩⟩ := a.1
      · rw [e1] at e; cases e
      · rw [e1] at e
        obtain ⟨rfl, _⟩ : i = id ∧ 0 = o := by simpa using e
        exact ⟨l0, l1⟩
    | tail _ hq => exact RowsOwn.mem a.2 q' hq id o e
  | [], _ :: _, a, _, _, _, _, _ => a.elim
  | _ :: _, [], a, _, _, _, _, _ => a.elim
theorem RowOwn.keep {h' : AHeap} {nx0 nx nx' w : Nat} {k : IntKind} (l : nx ≤ nx') {q : Rw} {r : List Nat} (a : RowOwn h nx0 nx k w q r) (hk : ∀ id, q.1 = some (id, 0) → id < nx → h' id = h id) : RowOwn h' nx0 nx' k w q r := by
  obtain ⟨a1, a2 | ⟨id, e, l0, l1, b⟩⟩ := a
  · exact ⟨a1, .inl a2⟩
  · exact ⟨a1, .inr ⟨id, e, l0, by omega, (hk id e l1).trans b⟩⟩
theorem RowsOwn.keep {h' : AHeap} {nx0 nx nx' w : Nat} {k : IntKind} (l : nx ≤ nx') : ∀ {qs : List Rw} {M : List (List Nat)}, RowsOwn h nx0 nx k w qs M → (∀ q ∈ qs, ∀ id, q.1 = some (id, 0) → id < nx → h' id = h id) → RowsOwn h' nx0 nx' k w qs M
  | [], [], _, _ => trivial
  | q :: qs, r :: M, a, hk => ⟨a.1.keep l (fun id => hk q List.mem_cons_self id), RowsOwn.keep l a.2 (fun q hq => hk q (List.mem_cons_of_mem _ hq))⟩
  | [], _ :: _, a, _ => a.elim
  | _ :: _, [], a, _ => a.elim
theorem RowsOwn.snoc {nx0 nx w : Nat} {k : IntKind} : ∀ {qs : List Rw} {M : List (List Nat)}, RowsOwn h nx0 nx k w qs M → ∀ {q : Rw} {r : List Nat}, RowOwn h nx0 nx k w q r → RowsOwn h nx0 nx k w (qs ++ [q]) (M ++ [r])
  | [], [], _, q, r, hr => ⟨hr, trivial⟩
  | q :: qs, r :: M, a, _, _, hr => ⟨a.1, RowsOwn.snoc a.2 hr⟩
  | [], _ :: _, a, _, _, _ => a.elim
  | _ :: _, [], a, _, _, _ => a.elim

def OwnMat (h : AHeap) (nx0 nx : Nat) (k : IntKind) (a : Option (Nat × Nat)) (M : List (List Nat)) (w : Nat) : Prop :=
  ∃ qs, RowsOwn h nx0 nx k w qs M ∧ OwnSl h nx0 nx a M.length 1 (qs.map (rcell w)) ∧ ∀ q ∈ qs, ∀ id, q.1 = some (id, 0) → a ≠ some (id, 0)
theorem OwnMat.mat {nx0 nx w : Nat} {k : IntKind} {a : Option (Nat × Nat)} {M : List (List Nat)} (m : OwnMat h nx0 nx k a M w) : Mat h nx k a M w := by
  obtain ⟨qs, r, s, _⟩ := m
  exact ⟨qs, r.rows, s.sl⟩
theorem OwnMat.nil (h : AHeap) (nx0 nx w : Nat) (k : IntKind) : OwnMat h nx0 nx k none [] w := ⟨[], trivial, OwnSl.nil _ _ _ _, fun q hq => by cases hq⟩
theorem OwnMat.ext {h' : AHeap} {nx0 nx nx' w : Nat} {k : IntKind} {a : Option (Nat × Nat)} {M : List (List Nat)} (m : OwnMat h nx0 nx k a M w) (x : Ext h nx h' nx') : OwnMat h' nx0 nx' k a M w := by
  obtain ⟨qs, r, s, n⟩ := m
  exact ⟨qs, r.keep x.1 (fun _ _ id _ hl => x.2 id hl), s.ext x, n⟩

theorem appD_a {a : Option (Nat × Nat)} {n : Nat} {c : Bool} {es bytes id k : Nat} {ws : List AV} {rd : List Nat} {e : AE} (he : appD h a n c es bytes id (k, ws, rd) = some e) (hk : k ≠ 0) : e.a = some (id, 0) := by
  unfold appD at he
  rw [if_neg hk] at he
  split at he
  · split at he
    · obtain rfl := Option.some.inj he; rfl
    · obtain ⟨b, _, he⟩ := Option.bind_eq_some_iff.1 he
      split at he
      · split at he
        · obtain rfl := Option.some.inj he; rfl
        · split at he
          · obtain rfl := Option.some.inj he; rfl
          · cases he
      · cases he
  · cases he

theorem OwnSl.append_ids2 {nx0 nx : Nat} {a : Option (Nat × Nat)} {n es : Nat} {vs : List AV} (s : OwnSl h nx0 nx a n es vs) {c : Bool} {bytes id : Nat} {q : Nat × List AV × List Nat} {e : AE} (he : appD h a n c es bytes id q = some e) : ∀ x ∈ idsOf e.sets, x = id ∨ a = some (x, 0) := by
  unfold appD at he
  split at he
  · obtain rfl := Option.some.inj he; intro x hx; cases hx
  · split at he
    · rcases s.2 with ⟨rfl, rfl⟩ | ⟨i, rfl, hi0, hi1, e0⟩
      · simp only at he
        obtain rfl := Option.some.inj he
        intro x hx; simp [idsOf] at hx; exact .inl hx
      · simp only [e0, Option.bind_some] at he
        split at he
        · split at he
          · obtain rfl := Option.some.inj he
            intro x hx; simp [idsOf] at hx; exact .inl hx
          · split at he
            · obtain rfl := Option.some.inj he
              intro x hx; simp [idsOf] at hx
              rcases hx with rfl | rfl
              · exact .inr rfl
              · exact .inl rfl
            · cases he
        · cases he
    · cases he

/-- A row of one's own is pushed. -/
theorem OwnMat.pushQ {nx0 nx w : Nat} {k : IntKind} {a : Option (Nat × Nat)} {M : List (List Nat)} (m : OwnMat h nx0 nx k a M w) {c : Bool} {bytes id id2 : Nat} {q : Rw} {r : List Nat} (hq : RowOwn h nx0 nx k w q r) (hne : ∀ id, q.1 = some (id, 0) → a ≠ some (id, 0)) (hg : growOk (M.length + 1) bytes = true) (hn : nx0 ≤ nx) (hid : nx ≤ id) (hid2 : id < id2) :
    ∃ e, appD (h.put id (some ⟨[.slice q.1 w q.2], 1, true⟩)) a M.length c 1 bytes id2 (1, [.slice q.1 w q.2], [id]) = some e ∧ e.n = M.length + 1 ∧ OwnMat ((h.put id (some ⟨[.slice q.1 w q.2], 1, true⟩)).puts e.sets) nx0 (id2 + 1) k e.a (M ++ [r]) w ∧ Ext h nx0 ((h.put id (some ⟨[.slice q.1 w q.2], 1, true⟩)).puts e.sets) (id2 + 1) := by
  obtain ⟨qs, ro, s, nn⟩ := m
  obtain ⟨e, f1, f2, f3, f4⟩ := s.push (c := c) (bytes := bytes) (id := id) (id2 := id2) (ws := [.slice q.1 w q.2]) rfl hg hn hid hid2
  have s' : OwnSl (h.put id (some ⟨[.slice q.1 w q.2], 1, true⟩)) nx0 (id + 1) a M.length 1 (qs.map (rcell w)) := s.put hid (by omega)
  have ids := s'.append_ids2 f1
  have keep : ∀ j, a ≠ some (j, 0) → j < nx → ((h.put id (some ⟨[.slice q.1 w q.2], 1, true⟩)).puts e.sets) j = h j := by
    intro j hj0 hj
    rw [puts_get, put_ne (by omega)]
    intro hx
    rcases ids j hx with e1 | e1
    · omega
    · exact hj0 e1
  refine ⟨e, f1, f2, ⟨qs ++ [q], (ro.keep (by omega) fun p hp id e1 hl => keep id (nn p hp id e1) hl).snoc (hq.keep (by omega) fun id e1 hl => keep id (hne id e1) hl), ?_, ?_⟩, f4⟩
  · rw [List.length_append, List.length_cons, List.length_nil, List.map_append]
    exact f3
  · intro p hp id' e1
    rw [appD_a f1 (by omega)]
    have : id' < nx := by
      rcases List.mem_append.1 hp with hp | hp
      · exact (ro.mem p hp id' 0 e1).2
      · simp at hp; subst hp
        obtain ⟨_, ⟨e2, _⟩ | ⟨i, e2, _, l1, _⟩⟩ := hq
        · rw [e2] at e1; cases e1
        · rw [e2] at e1
          obtain rfl : i = id' := by simpa using e1
          exact l1
    intro e2
    have : id2 = id' := by simpa using e2
    omega

theorem OwnMat.push {nx0 nx w : Nat} {k : IntKind} {a : Option (Nat × Nat)} {M : List (List Nat)} (m : OwnMat h nx0 nx k a M w) {c rc : Bool} {bytes id id2 ri : Nat} {r : List Nat} (hw : 1 ≤ w) (hr : r.length = w) (h0 : nx0 ≤ ri) (h1 : ri < nx) (hb : h ri = some ⟨ints k (nints r), 1, true⟩) (hg : growOk (M.length + 1) bytes = true) (hn : nx0 ≤ nx) (hid : nx ≤ id) (hid2 : id < id2) :
    ∃ e, appD (h.put id (some ⟨[.slice (some (ri, 0)) w rc], 1, true⟩)) a M.length c 1 bytes id2 (1, [.slice (some (ri, 0)) w rc], [id]) = some e ∧ e.n = M.length + 1 ∧ OwnMat ((h.put id (some ⟨[.slice (some (ri, 0)) w rc], 1, true⟩)).puts e.sets) nx0 (id2 + 1) k e.a (M ++ [r]) w ∧ Ext h nx0 ((h.put id (some ⟨[.slice (some (ri, 0)) w rc], 1, true⟩)).puts e.sets) (id2 + 1) := by
  refine m.pushQ (q := (some (ri, 0), rc)) ⟨hr, .inr ⟨ri, rfl, h0, h1, hb⟩⟩ ?_ hg hn hid hid2
  intro j hj ha
  obtain rfl : ri = j := by simpa using hj
  obtain ⟨qs, _, s, _⟩ := m
  rcases s.2 with ⟨e2, _⟩ | ⟨i, e2, _, _, e3⟩
  · rw [e2] at ha; cases ha
  · rw [e2] at ha
    obtain rfl : i = ri := by simpa using ha
    rw [e3] at hb
    simp only [Option.some.injEq, ABlk.mk.injEq] at hb
    have hl := congrArg List.length hb.1
    cases r with
    | nil => simp at hr; omega
    | cons x r' =>
      cases qs with
      | nil => simp [ints, nints] at hl
      | cons q qs => have := hb.1; simp [ints, nints, rcell] at this

end Go.Proofs.Ytdfopcgfhjijgaa.T
