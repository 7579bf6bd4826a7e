/- An abstract machine: values without memory's chances (no capacities, no draws), blocks by number. Nothing of a program. -/
import Derived.Calls
import Derived.Orders
import Derived.RowKit
set_option linter.unusedVariables false
set_option linter.unusedSimpArgs false
namespace Go.Proofs.YtahilinkfnchaaaDoor.T
open Go Go.RowKit

/-- Abstract values. An address: a block's number and an offset in cells. A slice: where it begins, its length in elements, and its capacity where that is known. -/
inductive AV where
  | bool (b : Bool)
  | int (k : IntKind) (n : Int)
  | str (s : ByteArray)
  | ptr (a : Option (Nat × Nat))
  | slice (a : Option (Nat × Nat)) (len : Nat) (cap : Option Nat)
  | fn (f : Nat) (first caps : List AV)
  | yld (l : Nat)
  | nilFn
  | iface (t : Nat) (v : AV)
  | nilIface
  | mapv (r : Option Nat)
  | agg (cs : List AV)
  | tuple (cs : List AV)
  | bad
  deriving Inhabited

def AV.undef : AV := .tuple []
def AV.cells : AV → List AV
  | .agg cs => cs
  | v => [v]

/-- A block: its cells, the cells of an element, whether it may be written. -/
structure ABlk where
  cells : List AV
  es : Nat
  own : Bool

abbrev AHeap := Nat → Option ABlk
def AHeap.put (h : AHeap) (i : Nat) (b : Option ABlk) : AHeap := fun j => if j = i then b else h j

/-- Where an abstract block lies: a block of memory, from cell 'base' on 'cap' cells; 'es': cells of an element. -/
structure Place where
  blk : Nat
  base : Nat
  cap : Nat
  es : Nat

abbrev PMap := Nat → Option Place
def PMap.le (m m' : PMap) : Prop := ∀ i p, m i = some p → m' i = some p
theorem PMap.le_refl (m : PMap) : m.le m := fun _ _ h => h
theorem PMap.le_trans {a b c : PMap} (h : a.le b) (k : b.le c) : a.le c := fun i p e => k i p (h i p e)
def PMap.put (m : PMap) (i : Nat) (p : Place) : PMap := fun j => if j = i then some p else m j

/-- What is known of a slice's capacity c: it is k, or (k from here on) at least k - CB. -/
def CB : Nat := 4611686018427387904
def CapIs (k c : Nat) : Prop := (k < CB → c = k) ∧ (CB ≤ k → k - CB ≤ c)
def capMin (k : Nat) : Nat := bif Nat.blt k CB then k else k - CB
theorem CapIs.self (c : Nat) : CapIs c c := ⟨fun _ => rfl, fun _ => by omega⟩
theorem capMin_lt {k : Nat} (h : k < CB) : capMin k = k := by unfold capMin; rw [show Nat.blt k CB = true by rw [Nat.blt_eq]; exact h, cond_true]
theorem capMin_ge {k : Nat} (h : CB ≤ k) : capMin k = k - CB := by
  unfold capMin
  have : Nat.blt k CB = false := by rw [← Bool.not_eq_true, Nat.blt_eq]; omega
  rw [this, cond_false]
theorem CapIs.min_le {k c : Nat} (h : CapIs k c) : capMin k ≤ c := by
  by_cases q : k < CB
  · rw [capMin_lt q]; exact Nat.le_of_eq (h.1 q).symm
  · rw [capMin_ge (by omega)]; exact h.2 (by omega)

mutual
def Rel (m : PMap) : AV → Value → Prop
  | .bool b, x => x = .bool b
  | .int k n, x => x = .int k n
  | .str s, x => x = .string s
  | .ptr none, x => x = .pointer none
  | .ptr (some a), x => ∃ p, m a.1 = some p ∧ x = .pointer (some ⟨p.blk, p.base + a.2, none⟩)
  | .slice none n _, x => n = 0 ∧ x = .slice none 0 0
  | .slice (some a) n clip, x => ∃ p A c, m a.1 = some p ∧ x = .slice (some A) n c ∧ n ≤ c ∧ (∀ k, clip = some k → CapIs k c) ∧ (c ≠ 0 → A = ⟨p.blk, p.base + a.2, none⟩ ∧ a.2 + c * p.es ≤ p.cap)
  | .fn f first caps, x => ∃ us vs, x = .func (.func f) ⟨us⟩ ⟨vs⟩ ∧ RelL m first us ∧ RelL m caps vs
  | .yld l, x => ∃ p, m l = some p ∧ x = .func (.yield p.blk) #[] #[]
  | .nilFn, x => x = .nilFunc
  | .iface t v, x => ∃ y, x = .iface t y ∧ Rel m v y
  | .nilIface, x => x = .nilIface
  | .mapv none, x => x = .map none
  | .mapv (some r), x => ∃ p, m r = some p ∧ x = .map (some p.blk)
  | .agg cs, x => ∃ ys, x = .agg ⟨ys⟩ ∧ RelL m cs ys
  | .tuple cs, x => ∃ ys, x = .tuple ⟨ys⟩ ∧ RelL m cs ys
  | .bad, _ => True
def RelL (m : PMap) : List AV → List Value → Prop
  | [], ys => ys = []
  | v :: vs, ys => ∃ y r, ys = y :: r ∧ Rel m v y ∧ RelL m vs r
end

mutual
theorem Rel.le {m m' : PMap} (h : m.le m') : ∀ {v : AV} {x : Value}, Rel m v x → Rel m' v x
  | .bool b, x, r => by simpa [Rel] using r
  | .int k n, x, r => by simpa [Rel] using r
  | .str s, x, r => by simpa [Rel] using r
  | .ptr none, x, r => by simpa [Rel] using r
  | .ptr (some a), x, r => by simp only [Rel] at r ⊢; obtain ⟨p, e, rfl⟩ := r; exact ⟨p, h _ _ e, rfl⟩
  | .slice none n _, x, r => by simpa [Rel] using r
  | .slice (some a) n clip, x, r => by simp only [Rel] at r ⊢; obtain ⟨p, A, c, e, q⟩ := r; exact ⟨p, A, c, h _ _ e, q⟩
  | .fn f first caps, x, r => by simp only [Rel] at r ⊢; obtain ⟨us, vs, e, a, b⟩ := r; exact ⟨us, vs, e, RelL.le h a, RelL.le h b⟩
  | .yld l, x, r => by simp only [Rel] at r ⊢; obtain ⟨p, e, rfl⟩ := r; exact ⟨p, h _ _ e, rfl⟩
  | .nilFn, x, r => by simpa [Rel] using r
  | .iface t v, x, r => by simp only [Rel] at r ⊢; obtain ⟨y, e, q⟩ := r; exact ⟨y, e, Rel.le h q⟩
  | .nilIface, x, r => by simpa [Rel] using r
  | .mapv none, x, r => by simpa [Rel] using r
  | .mapv (some r), x, q => by simp only [Rel] at q ⊢; obtain ⟨p, e, rfl⟩ := q; exact ⟨p, h _ _ e, rfl⟩
  | .agg cs, x, r => by simp only [Rel] at r ⊢; obtain ⟨ys, e, q⟩ := r; exact ⟨ys, e, RelL.le h q⟩
  | .tuple cs, x, r => by simp only [Rel] at r ⊢; obtain ⟨ys, e, q⟩ := r; exact ⟨ys, e, RelL.le h q⟩
  | .bad, x, r => by simp [Rel]
theorem RelL.le {m m' : PMap} (h : m.le m') : ∀ {vs : List AV} {xs : List Value}, RelL m vs xs → RelL m' vs xs
  | [], xs, r => by simpa [RelL] using r
  | v :: vs, xs, r => by simp only [RelL] at r ⊢; obtain ⟨y, q, e, a, b⟩ := r; exact ⟨y, q, e, Rel.le h a, RelL.le h b⟩
end

theorem RelL.length {m : PMap} : ∀ {vs : List AV} {xs : List Value}, RelL m vs xs → xs.length = vs.length
  | [], xs, r => by simp only [RelL] at r; subst r; rfl
  | v :: vs, xs, r => by simp only [RelL] at r; obtain ⟨y, q, rfl, a, b⟩ := r; simp [RelL.length b]
theorem RelL.get {m : PMap} : ∀ {vs : List AV} {xs : List Value} (_ : RelL m vs xs) (i : Nat) (v : AV), vs[i]? = some v → ∃ x, xs[i]? = some x ∧ Rel m v x
  | [], xs, r, i, v, h => by simp at h
  | u :: vs, xs, r, i, v, h => by
    simp only [RelL] at r; obtain ⟨y, q, rfl, a, b⟩ := r
    cases i with
    | zero => simp only [List.getElem?_cons_zero, Option.some.injEq] at h ⊢; subst h; exact ⟨y, rfl, a⟩
    | succ i => simp only [List.getElem?_cons_succ] at h ⊢; exact RelL.get b i v h
theorem RelL.set {m : PMap} : ∀ {vs : List AV} {xs : List Value} (_ : RelL m vs xs) (i : Nat) (v : AV) (x : Value), Rel m v x → RelL m (vs.set i v) (xs.set i x)
  | [], xs, r, i, v, x, h => by simp only [RelL] at r; subst r; simp [RelL]
  | u :: vs, xs, r, i, v, x, h => by
    simp only [RelL] at r; obtain ⟨y, q, rfl, a, b⟩ := r
    cases i with
    | zero => simp only [List.set_cons_zero, RelL]; exact ⟨x, q, rfl, h, b⟩
    | succ i => simp only [List.set_cons_succ, RelL]; exact ⟨y, _, rfl, a, RelL.set b i v x h⟩
theorem RelL.append {m : PMap} : ∀ {vs us : List AV} {xs ys : List Value}, RelL m vs xs → RelL m us ys → RelL m (vs ++ us) (xs ++ ys)
  | [], us, xs, ys, r, q => by simp only [RelL] at r; subst r; exact q
  | v :: vs, us, xs, ys, r, q => by
    simp only [RelL] at r; obtain ⟨y, t, rfl, a, b⟩ := r
    simp only [List.cons_append, RelL]; exact ⟨y, _, rfl, a, RelL.append b q⟩
theorem RelL.take {m : PMap} : ∀ {vs : List AV} {xs : List Value} (n : Nat), RelL m vs xs → RelL m (vs.take n) (xs.take n)
  | [], xs, n, r => by simp only [RelL] at r; subst r; simp [RelL]
  | v :: vs, xs, n, r => by
    simp only [RelL] at r; obtain ⟨y, t, rfl, a, b⟩ := r
    cases n with
    | zero => simp [RelL]
    | succ n => simp only [List.take_succ_cons, RelL]; exact ⟨y, _, rfl, a, RelL.take n b⟩
theorem RelL.drop {m : PMap} : ∀ {vs : List AV} {xs : List Value} (n : Nat), RelL m vs xs → RelL m (vs.drop n) (xs.drop n)
  | [], xs, n, r => by simp only [RelL] at r; subst r; simp [RelL]
  | v :: vs, xs, n, r => by
    simp only [RelL] at r; obtain ⟨y, t, rfl, a, b⟩ := r
    cases n with
    | zero => simp only [List.drop_zero, RelL]; exact ⟨y, t, rfl, a, b⟩
    | succ n => simpa using RelL.drop n b
theorem RelL.replicate {m : PMap} {v : AV} {x : Value} (h : Rel m v x) : ∀ n, RelL m (List.replicate n v) (List.replicate n x)
  | 0 => by simp [RelL]
  | n + 1 => by simp only [List.replicate_succ, RelL]; exact ⟨x, _, rfl, h, RelL.replicate h n⟩
/-- One cell's value. -/
def AV.one : AV → Bool
  | .agg _ => false
  | .tuple _ => false
  | .bad => false
  | _ => true
def allOne (vs : List AV) : Bool := vs.all AV.one

theorem Rel.cells {m : PMap} {v : AV} {x : Value} (h : Rel m v x) (o : allOne v.cells = true) : RelL m v.cells x.cells.toList := by
  cases v with
  | agg cs => simp only [Rel] at h; obtain ⟨ys, rfl, q⟩ := h; simpa [AV.cells, Value.cells] using q
  | ptr a => cases a <;> simp only [Rel] at h <;> (try obtain ⟨p, e, rfl⟩ := h) <;> (try subst h) <;> simp_all [AV.cells, Value.cells, RelL, Rel]
  | slice a n c => cases a with
    | none => simp only [Rel] at h; obtain ⟨rfl, rfl⟩ := h; simp [AV.cells, Value.cells, RelL, Rel]
    | some a => simp only [Rel] at h; obtain ⟨p, A, c', e, rfl, q⟩ := h; simp only [AV.cells, Value.cells, RelL, Rel]; exact ⟨_, [], rfl, ⟨p, A, c', e, rfl, q⟩, rfl⟩
  | fn f a b => simp only [Rel] at h; obtain ⟨us, vs, rfl, q⟩ := h; simp only [AV.cells, Value.cells, RelL, Rel]; exact ⟨_, [], rfl, ⟨us, vs, rfl, q⟩, rfl⟩
  | yld l => simp only [Rel] at h; obtain ⟨p, e, rfl⟩ := h; simp only [AV.cells, Value.cells, RelL, Rel]; exact ⟨_, [], rfl, ⟨p, e, rfl⟩, rfl⟩
  | iface t v => simp only [Rel] at h; obtain ⟨y, rfl, q⟩ := h; simp only [AV.cells, Value.cells, RelL, Rel]; exact ⟨_, [], rfl, ⟨y, rfl, q⟩, rfl⟩
  | mapv r => cases r with
    | none => simp only [Rel] at h; subst h; simp [AV.cells, Value.cells, RelL, Rel]
    | some r => simp only [Rel] at h; obtain ⟨p, e, rfl⟩ := h; simp only [AV.cells, Value.cells, RelL, Rel]; exact ⟨_, [], rfl, ⟨p, e, rfl⟩, rfl⟩
  | tuple cs => simp only [Rel] at h; obtain ⟨ys, rfl, q⟩ := h; simp only [AV.cells, Value.cells, RelL, Rel]; exact ⟨_, [], rfl, ⟨ys, rfl, q⟩, rfl⟩
  | bad => simp [allOne, AV.cells, AV.one] at o
  | bool b => simp only [Rel] at h; subst h; simp [AV.cells, Value.cells, RelL, Rel]
  | int k n => simp only [Rel] at h; subst h; simp [AV.cells, Value.cells, RelL, Rel]
  | str s => simp only [Rel] at h; subst h; simp [AV.cells, Value.cells, RelL, Rel]
  | nilFn => simp only [Rel] at h; subst h; simp [AV.cells, Value.cells, RelL, Rel]
  | nilIface => simp only [Rel] at h; subst h; simp [AV.cells, Value.cells, RelL, Rel]

end Go.Proofs.YtahilinkfnchaaaDoor.T
