/- For specifications over the machine: rows of structs, bytes, what may turn and what may not. Nothing of one program. -/
import Derived.Test.YtahilinkfnchaaaDoorTJ
set_option linter.unusedVariables false
set_option linter.unusedSimpArgs false
namespace Go.Proofs.YtahilinkfnchaaaDoor.T
open Go Go.RowKit

variable {R : Type} {h h' : AHeap} {nx nx' : Nat}

theorem asCal_fn (f : Nat) (us vs : List AV) : asCal (.fn f us vs) = some (.fn f, us, vs) := by simp [asCal]
theorem asCal_yld (l : Nat) : asCal (.yld l) = some (.yld l, [], []) := by simp [asCal]
theorem asFn_fn (f : Nat) (us vs : List AV) : asFn (.fn f us vs) = some (f, us, vs) := by simp [asFn]
theorem callC_fn (call : CallF) (Y : YldF) (f : Nat) : callC call Y (.fn f) = call f := by simp [callC]
theorem callC_yld (call : CallF) (Y : YldF) (l : Nat) : callC call Y (.yld l) = Y l := by simp [callC]
theorem nil_app (l : List AV) : [] ++ l = l := by simp
theorem isReady_at {l es : Nat} {cs : List AV} {own : Bool} (e : h l = some ⟨cs, es, own⟩) : isReady h l es = true := by
  unfold isReady; rw [e]; simp
theorem wpred {i : Nat} (h0 : i ≠ 0) (h : i ≤ 4000000000000000000) : wrapA .i64 ((i : Int) - 1) = ((i - 1 : Nat) : Int) := by rw [wA (by omega) (by omega)]; omega

/-- Only these turn. -/
def Frm (D : Nat → Prop) (h : AHeap) (nx : Nat) (h' : AHeap) (nx' : Nat) : Prop := nx ≤ nx' ∧ ∀ i, i < nx → ¬ D i → h' i = h i
theorem Frm.refl (D : Nat → Prop) (h : AHeap) (nx : Nat) : Frm D h nx h nx := ⟨Nat.le_refl _, fun _ _ _ => rfl⟩
theorem Frm.le {D : Nat → Prop} {m : Nat} (f : Frm D h nx h' nx') (l : nx' ≤ m) : Frm D h nx h' m := ⟨by have := f.1; omega, f.2⟩
theorem Frm.trans {D D1 : Nat → Prop} {h1 : AHeap} {n1 : Nat} (f : Frm D h nx h1 n1) (g : Frm D1 h1 n1 h' nx') (k : ∀ i, i < nx → D1 i → D i) : Frm D h nx h' nx' :=
  ⟨by have := f.1; have := g.1; omega, fun i hi hd => (g.2 i (by have := f.1; omega) (fun q => hd (k i hi q))).trans (f.2 i hi hd)⟩
theorem Frm.more {D D1 : Nat → Prop} (f : Frm D h nx h' nx') (k : ∀ i, i < nx → D i → D1 i) : Frm D1 h nx h' nx' := ⟨f.1, fun i hi hd => f.2 i hi fun q => hd (k i hi q)⟩
theorem Ext.fr (x : Ext h nx h' nx') (D : Nat → Prop) : Frm D h nx h' nx' := ⟨x.1, fun i hi _ => x.2 i hi⟩
theorem Frm.ext (f : Frm (fun _ => False) h nx h' nx') : Ext h nx h' nx' := ⟨f.1, fun i hi => f.2 i hi (fun q => q)⟩
theorem Frm.put {D : Nat → Prop} {i m : Nat} {b : Option ABlk} (f : Frm D h nx h' nx') (hi : D i ∨ nx ≤ i) (l : nx' ≤ m) : Frm D h nx (h'.put i b) m :=
  ⟨by have := f.1; omega, fun j hj hd => (put_ne (by rintro rfl; rcases hi with q | q; exact hd q; omega)).trans (f.2 j hj hd)⟩

/-- A slice's block is none of these. -/
def Av (A : Nat → Prop) (a : Option (Nat × Nat)) (n : Nat) : Prop := 0 < n → ∀ p, a = some p → ¬ A p.1
theorem Sl.fr {D : Nat → Prop} {a : Option (Nat × Nat)} {n es : Nat} {vs : List AV} (s : Sl h nx a n es vs) (v : Av D a n) (f : Frm D h nx h' nx') : Sl h' nx' a n es vs :=
  ⟨s.1, fun j hj => by
    obtain ⟨p, b, e1, e2, e3, r⟩ := s.2 j hj
    exact ⟨p, b, e1, by have := f.1; omega, (f.2 _ e2 (v (by omega) p e1)).trans e3, r⟩⟩
theorem Av.go {A A' : Nat → Prop} {a : Option (Nat × Nat)} {n es : Nat} {vs : List AV} (v : Av A a n) (s : Sl h nx a n es vs) (g : ∀ i, i < nx → A' i → A i) : Av A' a n := fun hn p e q => by
  obtain ⟨p', b, e1, e2, _⟩ := s.2 0 hn
  rw [e] at e1; obtain rfl := Option.some.inj e1
  exact v hn p e (g _ e2 q)
theorem Av.less {A D : Nat → Prop} {a : Option (Nat × Nat)} {n : Nat} (v : Av A a n) (k : ∀ i, D i → A i) : Av D a n := fun hn p e q => v hn p e (k _ q)
theorem Av.none {A : Nat → Prop} {a : Option (Nat × Nat)} : Av A a 0 := fun h => by omega
theorem OwnSl.av {A : Nat → Prop} {n0 : Nat} {a : Option (Nat × Nat)} {n es : Nat} {vs : List AV} (s : OwnSl h n0 nx a n es vs) (g : ∀ i, n0 ≤ i → i < nx → ¬ A i) : Av A a n := fun hn p e => by
  rcases s.2 with ⟨_, e'⟩ | ⟨i, e', i1, i2, _⟩
  · omega
  · rw [e'] at e; obtain rfl := Option.some.inj e; exact g _ i1 i2

/-- Bytes (or numbers) that a slice holds. -/
def Byt (k : IntKind) (h : AHeap) (nx : Nat) (A : Nat → Prop) (v : AV) (bs : List Int) : Prop :=
  ∃ a c, v = .slice a bs.length c ∧ Sl h nx a bs.length 1 (ints k bs) ∧ Av A a bs.length
theorem Byt.go {k : IntKind} {A A' D : Nat → Prop} {v : AV} {bs : List Int} (b : Byt k h nx A v bs) (f : Frm D h nx h' nx') (d : ∀ i, i < nx → D i → A i) (g : ∀ i, i < nx → A' i → A i) : Byt k h' nx' A' v bs := by
  obtain ⟨a, c, e, s, v⟩ := b
  have v' : Av D a bs.length := v.go s d
  exact ⟨a, c, e, s.fr v' f, v.go s g⟩

/-! ### rows -/
def All2 {α β : Type} (R : α → β → Prop) : List α → List β → Prop
  | [], l => l = []
  | x :: xs, l => ∃ y ys, l = y :: ys ∧ R x y ∧ All2 R xs ys
theorem All2.len {α β : Type} {R : α → β → Prop} : ∀ {xs : List α} {ys : List β}, All2 R xs ys → ys.length = xs.length
  | [], ys, h => by simp only [All2] at h; subst h; rfl
  | x :: xs, ys, h => by obtain ⟨y, r, rfl, _, q⟩ := h; simp [All2.len q]
theorem All2.get {α β : Type} {R : α → β → Prop} : ∀ {xs : List α} {ys : List β}, All2 R xs ys → ∀ (i : Nat) (x : α), xs[i]? = some x → ∃ y, ys[i]? = some y ∧ R x y
  | [], ys, h, i, x, hi => by simp at hi
  | x :: xs, ys, h, i, z, hi => by
    obtain ⟨y, r, rfl, a, q⟩ := h
    cases i with
    | zero => simp at hi; subst hi; exact ⟨y, rfl, a⟩
    | succ i => simp at hi; simpa using All2.get q i z hi
theorem All2.mono {α β : Type} {R R' : α → β → Prop} (k : ∀ x y, R x y → R' x y) : ∀ {xs : List α} {ys : List β}, All2 R xs ys → All2 R' xs ys
  | [], ys, h => h
  | x :: xs, ys, h => by obtain ⟨y, r, e, a, q⟩ := h; exact ⟨y, r, e, k _ _ a, All2.mono k q⟩
theorem All2.append {α β : Type} {R : α → β → Prop} : ∀ {xs us : List α} {ys vs : List β}, All2 R xs ys → All2 R us vs → All2 R (xs ++ us) (ys ++ vs)
  | [], us, ys, vs, h, q => by simp only [All2] at h; subst h; exact q
  | x :: xs, us, ys, vs, h, q => by obtain ⟨y, r, rfl, a, b⟩ := h; exact ⟨y, r ++ vs, rfl, a, All2.append b q⟩
theorem All2.one {α β : Type} {R : α → β → Prop} {x : α} {y : β} (h : R x y) : All2 R [x] [y] := ⟨y, [], rfl, h, rfl⟩
theorem All2.set {α β : Type} {R : α → β → Prop} : ∀ {xs : List α} {ys : List β} (_ : All2 R xs ys) (i : Nat) (x : α) (y : β), R x y → All2 R (xs.set i x) (ys.set i y)
  | [], ys, h, i, x, y, r => by simp only [All2] at h; subst h; simp [All2]
  | z :: xs, ys, h, i, x, y, r => by
    obtain ⟨w, q, rfl, a, b⟩ := h
    cases i with
    | zero => exact ⟨y, q, rfl, r, b⟩
    | succ i => exact ⟨w, q.set i y, rfl, a, All2.set b i x y r⟩
theorem All2.take {α β : Type} {R : α → β → Prop} : ∀ {xs : List α} {ys : List β} (n : Nat), All2 R xs ys → All2 R (xs.take n) (ys.take n)
  | [], ys, n, h => by simp only [All2] at h; subst h; simp [All2]
  | x :: xs, ys, n, h => by
    obtain ⟨y, r, rfl, a, q⟩ := h
    cases n with
    | zero => simp [All2]
    | succ n => exact ⟨y, r.take n, rfl, a, All2.take n q⟩
theorem All2.replicate {α β : Type} {R : α → β → Prop} {x : α} {y : β} (h : R x y) : ∀ n, All2 R (List.replicate n x) (List.replicate n y)
  | 0 => by simp [All2]
  | n + 1 => ⟨y, _, rfl, h, All2.replicate h n⟩

theorem flat_len {es : Nat} : ∀ {rows : List (List AV)}, (∀ r ∈ rows, r.length = es) → rows.flatten.length = rows.length * es
  | [], _ => by simp
  | r :: rows, h => by simp only [List.flatten_cons, List.length_append, List.length_cons, h r List.mem_cons_self, flat_len (fun q hq => h q (List.mem_cons_of_mem _ hq)), Nat.add_mul]; omega
theorem flat_drop {es : Nat} : ∀ {rows : List (List AV)} {i : Nat} {r : List AV}, (∀ r ∈ rows, r.length = es) → rows[i]? = some r → ((rows.flatten.drop (i * es)).take es) = r
  | [], i, r, _, hi => by simp at hi
  | q :: rows, i, r, h, hi => by
    have hq := h q List.mem_cons_self
    cases i with
    | zero => simp at hi; subst hi; simp only [Nat.zero_mul, List.drop_zero, List.flatten_cons]; rw [← hq, List.take_left']; rfl
    | succ i =>
      simp at hi
      simp only [List.flatten_cons]
      rw [show (i + 1) * es = q.length + i * es by rw [hq, Nat.add_mul]; omega, List.drop_append, List.drop_of_length_le (by omega), List.nil_append, Nat.add_sub_cancel_left]
      exact flat_drop (fun u hu => h u (List.mem_cons_of_mem _ hu)) hi
theorem flat_get {es : Nat} {rows : List (List AV)} {i f : Nat} {r : List AV} (h : ∀ r ∈ rows, r.length = es) (hi : rows[i]? = some r) (hf : f < es) : rows.flatten[i * es + f]? = r[f]? := by
  have := flat_drop h hi
  rw [← this, List.getElem?_take, if_pos hf, List.getElem?_drop]
theorem flat_set {es : Nat} : ∀ {rows : List (List AV)} {i : Nat} {r : List AV}, (∀ r ∈ rows, r.length = es) → r.length = es → i < rows.length → splice rows.flatten (i * es) r = (rows.set i r).flatten
  | [], i, r, _, _, hi => by simp at hi
  | q :: rows, i, r, h, hr, hi => by
    have hq := h q List.mem_cons_self
    cases i with
    | zero =>
      simp only [splice, Nat.zero_mul, List.take_zero, List.nil_append, Nat.zero_add, List.flatten_cons, List.set_cons_zero]
      rw [hr, ← hq, List.drop_left']; rfl
    | succ i =>
      have ih := flat_set (fun u hu => h u (List.mem_cons_of_mem _ hu)) hr (show i < rows.length by simpa using hi)
      simp only [List.flatten_cons, List.set_cons_succ]
      rw [← ih]
      simp only [splice]
      rw [show (i + 1) * es = q.length + i * es by rw [hq, Nat.add_mul]; omega, List.take_append, Nat.add_assoc, List.drop_append, List.take_of_length_le (show q.length ≤ q.length + i * es by omega), List.drop_of_length_le (show q.length ≤ q.length + (i * es + r.length) by omega)]
      simp

/-- A row of a slice. -/
theorem Sl.readR {a : Option (Nat × Nat)} {n es : Nat} {vs : List AV} (s : Sl h nx a n es vs) {i : Nat} (hi : i < n) (K : List AV → Option R) (hm : Nat.beq es MB = false := by rfl) :
    (a.bind fun p => if 0 ≤ (i : Int) ∧ (i : Int) < ((n : Nat) : Int) then (ldR h p.1 (p.2 + Int.toNat (i : Int) * es) es).bind K else none) = K ((vs.drop (i * es)).take es) := by
  obtain ⟨p, b, rfl, _, e3, e4, e5, hq⟩ := s.2 i hi
  have hle : i * es + es ≤ n * es := by
    calc i * es + es = (i + 1) * es := by rw [Nat.add_mul, Nat.one_mul]
      _ ≤ n * es := Nat.mul_le_mul_right _ hi
  rw [Option.bind_some, if_pos ⟨by omega, by omega⟩, Int.toNat_natCast, ldR_at e3 (by omega) (mapB_of e4 hm), Option.bind_some]
  congr 1
  apply List.ext_getElem?
  intro j
  rw [List.getElem?_take, List.getElem?_take]
  by_cases hj : j < es
  · rw [if_pos hj, if_pos hj, List.getElem?_drop, List.getElem?_drop, ← hq _ (by omega)]
    congr 1; omega
  · rw [if_neg hj, if_neg hj]

/-- Rows that a slice holds: of each x a row that fits. -/
def Rows {α : Type} (Q : α → List AV → Prop) (h : AHeap) (nx : Nat) (A : Nat → Prop) (a : Option (Nat × Nat)) (es : Nat) (l : List α) : Prop :=
  ∃ rows, All2 Q l rows ∧ (∀ r ∈ rows, r.length = es) ∧ Sl h nx a l.length es rows.flatten ∧ Av A a l.length
theorem Rows.read {α : Type} {Q : α → List AV → Prop} {A : Nat → Prop} {a : Option (Nat × Nat)} {es : Nat} {l : List α} (w : Rows Q h nx A a es l) {i : Nat} {x : α} (hx : l[i]? = some x) (hm : Nat.beq es MB = false := by rfl) :
    ∃ r, Q x r ∧ r.length = es ∧ (∀ K : List AV → Option R, (a.bind fun p => if 0 ≤ (i : Int) ∧ (i : Int) < ((l.length : Nat) : Int) then (ldR h p.1 (p.2 + Int.toNat (i : Int) * es) es).bind K else none) = K r) ∧
      ∀ (f : Nat) (v : AV) (K : AV → Option R), f < es → r[f]? = some v → (a.bind fun p => if 0 ≤ (i : Int) ∧ (i : Int) < ((l.length : Nat) : Int) then (ldA h p.1 (p.2 + Int.toNat (i : Int) * es + f)).bind K else none) = K v := by
  obtain ⟨rows, q, len, s, _⟩ := w
  obtain ⟨r, hr, hq⟩ := q.get i x hx
  have hi : i < l.length := (List.getElem?_eq_some_iff.1 hx).1
  refine ⟨r, hq, len r (List.mem_of_getElem? hr), fun K => by rw [s.readR hi _ hm, flat_drop len hr], fun f v K hf hv => ?_⟩
  exact s.read (by omega) (by omega) hf (by rw [Int.toNat_natCast, flat_get len hr hf, hv]) K hm
theorem Rows.read0 {α : Type} {Q : α → List AV → Prop} {A : Nat → Prop} {a : Option (Nat × Nat)} {es : Nat} {l : List α} (w : Rows Q h nx A a es l) {i : Nat} {x : α} (hx : l[i]? = some x) (h0 : 0 < es) (hm : Nat.beq es MB = false := by rfl) :
    ∃ r, Q x r ∧ r.length = es ∧ ∀ (v : AV) (K : AV → Option R), r[0]? = some v → (a.bind fun p => if 0 ≤ (i : Int) ∧ (i : Int) < ((l.length : Nat) : Int) then (ldA h p.1 (p.2 + Int.toNat (i : Int) * es)).bind K else none) = K v := by
  obtain ⟨r, q, e, _, g⟩ := w.read (R := R) hx hm
  exact ⟨r, q, e, fun v K hv => g 0 v K h0 hv⟩
theorem Rows.go {α : Type} {Q Q' : α → List AV → Prop} {A A' D : Nat → Prop} {a : Option (Nat × Nat)} {es : Nat} {l : List α} (w : Rows Q h nx A a es l) (f : Frm D h nx h' nx') (d : ∀ i, i < nx → D i → A i) (g : ∀ i, i < nx → A' i → A i) (k : ∀ x r, Q x r → Q' x r) : Rows Q' h' nx' A' a es l := by
  obtain ⟨rows, q, len, s, v⟩ := w
  have v' : Av D a l.length := v.go s d
  exact ⟨rows, q.mono k, len, s.fr v' f, v.go s g⟩
theorem Rows.nil {α : Type} (Q : α → List AV → Prop) (h : AHeap) (nx : Nat) (A : Nat → Prop) (a : Option (Nat × Nat)) (es : Nat) : Rows Q h nx A a es [] := ⟨[], rfl, (fun r hr => by cases hr), ⟨by simp, fun j hj => by simp at hj⟩, Av.none⟩

/-- Rows in a block of one's own, to which one may append: the block is b. -/
def OwnRows {α : Type} (Q : α → List AV → Prop) (h : AHeap) (nx : Nat) (a : Option (Nat × Nat)) (es : Nat) (l : List α) : Prop :=
  ∃ rows, All2 Q l rows ∧ (∀ r ∈ rows, r.length = es) ∧ ((a = none ∧ l = []) ∨ ∃ b, a = some (b, 0) ∧ b < nx ∧ h b = some ⟨rows.flatten, es, true⟩)
def ownOf (a : Option (Nat × Nat)) : Nat → Prop := fun i => ∃ o, a = some (i, o)
theorem OwnRows.nil {α : Type} (Q : α → List AV → Prop) (h : AHeap) (nx es : Nat) : OwnRows Q h nx none es [] := ⟨[], rfl, (fun r hr => by cases hr), .inl ⟨rfl, rfl⟩⟩
theorem OwnRows.go {α : Type} {Q Q' : α → List AV → Prop} {D : Nat → Prop} {a : Option (Nat × Nat)} {es : Nat} {l : List α} (w : OwnRows Q h nx a es l) (f : Frm D h nx h' nx') (d : ∀ i, ownOf a i → ¬ D i) (k : ∀ x r, Q x r → Q' x r) : OwnRows Q' h' nx' a es l := by
  obtain ⟨rows, q, len, s⟩ := w
  refine ⟨rows, q.mono k, len, ?_⟩
  rcases s with s | ⟨b, e, b1, b2⟩
  · exact .inl s
  · exact .inr ⟨b, e, by have := f.1; omega, (f.2 b b1 (d b ⟨0, e⟩)).trans b2⟩
theorem OwnRows.rows {α : Type} {Q : α → List AV → Prop} {A : Nat → Prop} {a : Option (Nat × Nat)} {es : Nat} {l : List α} (w : OwnRows Q h nx a es l) (d : ∀ i, ownOf a i → ¬ A i) : Rows Q h nx A a es l := by
  obtain ⟨rows, q, len, s⟩ := w
  refine ⟨rows, q, len, ⟨by rw [flat_len len, q.len], fun j hj => ?_⟩, fun _ p e => d p.1 ⟨p.2, by rw [e]⟩⟩
  rcases s with ⟨_, rfl⟩ | ⟨b, e, b1, b2⟩
  · simp at hj
  · exact ⟨(b, 0), _, e, b1, b2, rfl, by simp [flat_len len, q.len], fun u hu => by simp⟩
/-- One row more. -/
theorem OwnRows.push {α : Type} {Q : α → List AV → Prop} {a : Option (Nat × Nat)} {es : Nat} {l : List α} (w : OwnRows Q h nx a es l) (c : Option Nat) {bytes id id2 : Nat} {x : α} {r : List AV} (hr : r.length = es) (hq : Q x r) (hg : growOk (l.length + 1) bytes = true) (h1 : nx ≤ id) (h2 : id < id2) (hes : 0 < es := by decide) :
    ∃ e, srcS (h.put id (some ⟨r, es, true⟩)) (some (id, 0)) 1 es = some (1, r, [id]) ∧ appD (h.put id (some ⟨r, es, true⟩)) a l.length c es bytes id2 (1, r, [id]) = some e ∧ e.a = some (id2, 0) ∧ e.n = l.length + 1 ∧
      OwnRows Q ((h.put id (some ⟨r, es, true⟩)).puts e.sets) (id2 + 1) e.a es (l ++ [x]) ∧ Frm (ownOf a) h nx ((h.put id (some ⟨r, es, true⟩)).puts e.sets) (id2 + 1) ∧ ((h.put id (some ⟨r, es, true⟩)).puts e.sets) id = some ⟨r, es, true⟩ ∧ ∀ i, i ∈ idsOf e.sets → ownOf a i ∨ i = id2 := by
  obtain ⟨rows, q, len, s⟩ := w
  have hl := flat_len len
  rw [q.len] at hl
  rcases s with ⟨rfl, rfl⟩ | ⟨b, rfl, b1, b2⟩
  · have hrows : rows = [] := by simpa [All2] using q
    subst hrows
    refine ⟨⟨some (id2, 0), 1, none, [(id2, some ⟨r, es, true⟩)], [id]⟩, src_lit hr, ?_, rfl, rfl, ⟨[r], All2.one hq, by simpa using hr, .inr ⟨id2, rfl, by omega, by simp⟩⟩, ⟨by omega, fun i hi _ => ?_⟩, ?_, ?_⟩
    · unfold appD; rw [if_neg (by simp), if_pos (by simpa using hg)]; rfl
    · simp only [puts_cons, puts_nil]; rw [put_ne (by omega), put_ne (by omega)]
    · simp only [puts_cons, puts_nil]; rw [put_ne (by omega), put_same]
    · intro i hi; simp [idsOf] at hi; exact .inr hi
  · have hb : (h.put id (some ⟨r, es, true⟩)) b = some ⟨rows.flatten, es, true⟩ := (put_ne (by omega)).trans b2
    have ht : (rows.flatten.drop 0).take (l.length * es) = rows.flatten := by rw [List.drop_zero, List.take_of_length_le (by omega)]
    have hflat : rows.flatten ++ r = (rows ++ [r]).flatten := by rw [List.flatten_append]; simp only [List.flatten_cons, List.flatten_nil, List.append_nil]
    by_cases cl : capLt c (l.length + 1) = true
    · refine ⟨⟨some (id2, 0), l.length + 1, none, [(id2, some ⟨rows.flatten ++ r, es, true⟩)], b :: [id]⟩, src_lit hr, ?_, rfl, rfl, ⟨rows ++ [r], q.append (All2.one hq), ?_, .inr ⟨id2, rfl, by omega, by rw [← hflat]; simp only [puts_cons, puts_nil, put_same]⟩⟩, ⟨by omega, fun i hi _ => ?_⟩, ?_, ?_⟩
      · unfold appD; rw [if_neg (by simp), if_pos hg]; simp only [hb, Option.bind_some, ht]; rw [if_pos (by rw [Bool.and_eq_true]; exact ⟨beq_self_eq_true es, decide_eq_true (by rw [Nat.zero_add]; omega)⟩)]; rw [if_pos cl]
      · intro u hu; rcases List.mem_append.1 hu with hu | hu; exact len u hu; simp at hu; subst hu; exact hr
      · simp only [puts_cons, puts_nil]; rw [put_ne (by omega), put_ne (by omega)]
      · simp only [puts_cons, puts_nil]; rw [put_ne (by omega), put_same]
      · intro i hi; simp [idsOf] at hi; exact .inr hi
    · have ci : capIn c (l.length + 1) (0 + (l.length + 1) * es) rows.flatten.length = false := by
        unfold capIn
        split
        · have : Nat.ble (0 + (l.length + 1) * es) rows.flatten.length = false := by rw [← Bool.not_eq_true, Nat.ble_eq, hl, Nat.add_mul]; omega
          rw [this, Bool.and_false]
        · rfl
      refine ⟨⟨some (id2, 0), l.length + 1, none, [(b, none), (id2, some ⟨rows.flatten ++ r, es, true⟩)], b :: [id]⟩, src_lit hr, ?_, rfl, rfl, ⟨rows ++ [r], q.append (All2.one hq), ?_, .inr ⟨id2, rfl, by omega, by rw [← hflat]; simp only [puts_cons, puts_nil, put_same]⟩⟩, ⟨by omega, fun i hi hd => ?_⟩, ?_, ?_⟩
      · unfold appD; rw [if_neg (by simp), if_pos hg]; simp only [hb, Option.bind_some, ht]; rw [if_pos (by rw [Bool.and_eq_true]; exact ⟨beq_self_eq_true es, decide_eq_true (by rw [Nat.zero_add]; omega)⟩)]; rw [if_neg (by simpa using cl), if_pos trivial, if_neg (by rw [ci]; simp)]
      · intro u hu; rcases List.mem_append.1 hu with hu | hu; exact len u hu; simp at hu; subst hu; exact hr
      · simp only [puts_cons, puts_nil]; rw [put_ne (by omega), put_ne (fun e => hd ⟨0, by rw [e]⟩), put_ne (by omega)]
      · simp only [puts_cons, puts_nil]; rw [put_ne (by omega), put_ne (by omega), put_same]
      · intro i hi; simp [idsOf] at hi; rcases hi with rfl | rfl; exact .inl ⟨0, rfl⟩; exact .inr rfl

end Go.Proofs.YtahilinkfnchaaaDoor.T
