/- The abstract heap against memory: what lies where, and what a new block, a store, an append in place do to it. Nothing of a program. -/
import Derived.Test.YtahilinkfnchaaaDoorT0
import Derived.Deep.MidRow
import Derived.Deep.AppendSrc
import Derived.Laws.AppendOwn
import Derived.Lib.LazyBuf
import Derived.RangeFuncOwn
import Derived.MapKept
set_option linter.unusedVariables false
set_option linter.unusedSimpArgs false
namespace Go.Proofs.YtahilinkfnchaaaDoor.T
open Go Go.RowKit

theorem Rel.one {m : PMap} {v : AV} {x : Value} (h : Rel m v x) (o : v.one = true) : x.oneCell' = true := by
  cases v with
  | agg cs => simp [AV.one] at o
  | tuple cs => simp [AV.one] at o
  | bad => simp [AV.one] at o
  | ptr a => cases a <;> simp only [Rel] at h <;> (try obtain ⟨p, e, rfl⟩ := h) <;> (try subst h) <;> rfl
  | slice a n c => cases a with
    | none => simp only [Rel] at h; obtain ⟨rfl, rfl⟩ := h; rfl
    | some a => simp only [Rel] at h; obtain ⟨p, A, c', e, rfl, q⟩ := h; rfl
  | fn f a b => simp only [Rel] at h; obtain ⟨us, vs, rfl, q⟩ := h; rfl
  | yld l => simp only [Rel] at h; obtain ⟨p, e, rfl⟩ := h; rfl
  | iface t v => simp only [Rel] at h; obtain ⟨y, rfl, q⟩ := h; rfl
  | mapv r => cases r with
    | none => simp only [Rel] at h; subst h; rfl
    | some r => simp only [Rel] at h; obtain ⟨p, e, rfl⟩ := h; rfl
  | bool b => simp only [Rel] at h; subst h; rfl
  | int k n => simp only [Rel] at h; subst h; rfl
  | str s => simp only [Rel] at h; subst h; rfl
  | nilFn => simp only [Rel] at h; subst h; rfl
  | nilIface => simp only [Rel] at h; subst h; rfl

theorem RelL.one {m : PMap} : ∀ {vs : List AV} {xs : List Value}, RelL m vs xs → allOne vs = true → ∀ x ∈ xs, x.oneCell' = true
  | [], xs, r, _ => by simp only [RelL] at r; subst r; intro x hx; cases hx
  | v :: vs, xs, r, o => by
    simp only [RelL] at r; obtain ⟨y, q, rfl, a, b⟩ := r
    simp only [allOne, List.all_cons, Bool.and_eq_true] at o
    intro x hx
    cases hx with
    | head => exact Rel.one a o.1
    | tail _ hx => exact RelL.one b o.2 x hx
theorem allOne_mem {vs : List AV} (h : allOne vs = true) {v : AV} (hv : v ∈ vs) : v.one = true := by
  simp only [allOne, List.all_eq_true] at h; exact h v hv
theorem allOne_of {vs : List AV} (h : ∀ v ∈ vs, v.one = true) : allOne vs = true := by
  simp only [allOne, List.all_eq_true]; exact h

/-- A loop's record: what never turns of it. -/
def SameLoop (r r' : Loop) : Prop := r'.fn = r.fn ∧ r'.tmps = r.tmps ∧ r'.params = r.params ∧ r'.assign = r.assign ∧ r'.body = r.body ∧ r'.defers = r.defers
theorem SameLoop.refl (r : Loop) : SameLoop r r := ⟨rfl, rfl, rfl, rfl, rfl, rfl⟩
theorem SameLoop.trans {a b c : Loop} (h : SameLoop a b) (k : SameLoop b c) : SameLoop a c :=
  ⟨k.1.trans h.1, k.2.1.trans h.2.1, k.2.2.1.trans h.2.2.1, k.2.2.2.1.trans h.2.2.2.1, k.2.2.2.2.1.trans h.2.2.2.2.1, k.2.2.2.2.2.trans h.2.2.2.2.2⟩

/-- Below N nothing turns; loops' records stay what they are; blocks of deferred calls stay. -/
structure Below (N : Nat) (w w' : World) : Prop where
  old : Go.RowKit.Below N w w'
  loops : ∀ (k : Nat) (r : Loop), w.heap[k]? = some (Obj.loop r) → ∃ r', w'.heap[k]? = some (Obj.loop r') ∧ SameLoop r r'
  defs : ∀ (k : Nat) (d : Option (List Deferred)), w.heap[k]? = some (Obj.deferred d) → w'.heap[k]? = some (Obj.deferred d)
theorem Below.refl (N : Nat) (w : World) : Below N w w := ⟨.refl N w, fun _ r h => ⟨r, h, .refl r⟩, fun _ _ h => h⟩
theorem Below.trans {N : Nat} {a b c : World} (h : Below N a b) (k : Below N b c) : Below N a c :=
  ⟨h.old.trans k.old, fun i r hr => by
    obtain ⟨r1, h1, s1⟩ := h.loops i r hr
    obtain ⟨r2, h2, s2⟩ := k.loops i r1 h1
    exact ⟨r2, h2, s1.trans s2⟩, fun i d hd => k.defs i d (h.defs i d hd)⟩
theorem Below.drew {N : Nat} {a w : World} (h : Below N a w) : Below N a w.drew := ⟨h.old.drew, h.loops, h.defs⟩
theorem Below.alloc {N : Nat} {a w : World} (h : Below N a w) (hN : N ≤ w.heap.size) (o : Obj) : Below N a (w.alloc o) :=
  h.trans ⟨(Go.RowKit.Below.refl N w).alloc hN o, fun k r hr => ⟨r, (Go.RowKit.Below.heap_alloc w o k (Array.getElem?_eq_some_iff.1 hr).1).trans hr, .refl r⟩,
    fun k d hd => (Go.RowKit.Below.heap_alloc w o k (Array.getElem?_eq_some_iff.1 hd).1).trans hd⟩
/-- What is not cells stays through a store. -/
theorem heap_setCell_other {w : World} {a : Addr} {v : Value} {k : Nat} {o : Obj} (h : w.heap[k]? = some o) (ho : ∀ c e f, o ≠ .cells c e f) : (w.setCell a v).heap[k]? = some o := by
  by_cases e : k = a.block
  · subst e
    obtain ⟨hlt, hk'⟩ := Array.getElem?_eq_some_iff.1 h
    show (w.heap.modify a.block _)[a.block]? = some o
    rw [Array.getElem?_eq_getElem (by rw [Array.size_modify]; exact hlt), Array.getElem_modify_self, hk']
    cases o with
    | cells c e f => exact absurd rfl (ho c e f)
    | _ => rfl
  · exact (Go.RowKit.Below.heap_setCell w a v k e).trans h
theorem heap_setCells_other {b : Nat} {k : Nat} {o : Obj} (ho : ∀ c e f, o ≠ .cells c e f) : ∀ (vs : List Value) (off : Nat) (w : World), w.heap[k]? = some o → (w.setCells b off vs).heap[k]? = some o
  | [], _, _, h => h
  | v :: vs, off, w, h => by
    rw [World.setCells]
    exact heap_setCells_other ho vs _ _ (heap_setCell_other h ho)
theorem below_setCells {N b : Nat} (hb : N ≤ b) (o : Nat) (vs : List Value) (w : World) {a : World} (h : Below N a w) : Below N a (w.setCells b o vs) :=
  h.trans ⟨Go.below_setCells hb _ _ _ (Go.RowKit.Below.refl N w), fun k r hr => ⟨r, heap_setCells_other (by intro c e f q; cases q) vs o w hr, .refl r⟩, fun k d hd => heap_setCells_other (by intro c e f q; cases q) vs o w hd⟩

/-- From here on an element's size is none: it says how a loop's record stands. -/
def LB : Nat := 4611686018427387904
def LRel (es : Nat) (r : Loop) : Prop :=
  (es = LB ∧ r.state = .ready ∧ r.pending = none) ∨ (es = LB + 1 ∧ r.state = .busy) ∨ (es = LB + 2 ∧ r.state = .done ∧ r.pending = some .ret) ∨ ∃ id, es = LB + 3 + id ∧ r.state = .done ∧ r.pending = some (.exit id)

/-- This element's size says that a block is a map: its cells are the entries, as pairs. -/
def MB : Nat := 4611686018427387903
theorem MB_LB : MB < LB := by decide
def EntRel (m : PMap) : List AV → List MapEntry → Prop
  | [], es => es = []
  | v :: vs, es => ∃ e r k x, es = e :: r ∧ v = .tuple [k, x] ∧ Rel m k e.key ∧ Rel m x e.val ∧ EntRel m vs r
theorem EntRel.le {m m' : PMap} (h : m.le m') : ∀ {vs : List AV} {es : List MapEntry}, EntRel m vs es → EntRel m' vs es
  | [], _, r => r
  | _ :: _, _, ⟨e, r, k, x, h1, h2, h3, h4, h5⟩ => ⟨e, r, k, x, h1, h2, Rel.le h h3, Rel.le h h4, EntRel.le h h5⟩

/-- A string's iterator: what of it a block tells. -/
def itC (s : ByteArray) (pos : Nat) : List AV := [.nilFn, .str s, .int .i64 (pos : Int)]
/-- What is in memory where no row of cells is: a map, a string's iterator. -/
def ObjOk (m : PMap) (cs : List AV) (o : Obj) : Prop := (∃ en ck, o = .map en ck ∧ EntRel m cs en.toList ∧ MapKept.Stamped en ck) ∨ ∃ s pos, cs = itC s pos ∧ o = .stringIter s pos
theorem ObjOk.le {m m' : PMap} {cs : List AV} {o : Obj} (h : m.le m') (k : ObjOk m cs o) : ObjOk m' cs o := by
  rcases k with ⟨en, ck, e, r, s⟩ | k
  · exact .inl ⟨en, ck, e, r.le h, s⟩
  · exact .inr k
theorem ObjOk.noRow {m : PMap} {cs : List AV} {o : Obj} (k : ObjOk m cs o) : ∀ c e f, o ≠ .cells c e f := by
  rcases k with ⟨en, ck, rfl, _⟩ | ⟨s, pos, _, rfl⟩ <;> intro c e f q <;> cases q
/-- What an abstract block says of memory. -/
structure BlkOk (N : Nat) (m : PMap) (w : World) (b : ABlk) (p : Place) : Prop where
  es : b.es < LB → p.es = b.es
  fits : b.es ≠ MB → b.cells.length ≤ p.cap
  lt : p.blk < w.heap.size
  cells : b.es ≠ MB → ∃ xs, RelL m b.cells xs ∧ w.rangeAt p.blk p.base xs
  one : b.es ≠ MB → allOne b.cells = true
  own : b.own = true → N ≤ p.blk ∧ (b.es ≠ MB → w.there p.blk p.base p.cap)
  old : b.own = false → p.blk < N
  map : b.es = MB → p.base = 0 ∧ ∃ o, w.heap[p.blk]? = some o ∧ ObjOk m b.cells o
theorem BlkOk.move {N : Nat} {m m' : PMap} {w w' : World} {b : ABlk} {p : Place} (k : BlkOk N m w b p) (le : m.le m') (hlt : p.blk < w'.heap.size) (hc : ∀ xs, b.es ≠ MB → w.rangeAt p.blk p.base xs → w'.rangeAt p.blk p.base xs)
    (ht : b.own = true → b.es ≠ MB → w.there p.blk p.base p.cap → w'.there p.blk p.base p.cap) (hm : b.es = MB → ∀ o, (∀ c e f, o ≠ .cells c e f) → w.heap[p.blk]? = some o → w'.heap[p.blk]? = some o) : BlkOk N m' w' b p :=
  ⟨k.es, k.fits, hlt, fun hn => by
    obtain ⟨xs, r, q⟩ := k.cells hn
    exact ⟨xs, RelL.le le r, hc xs hn q⟩, k.one, fun ho => ⟨(k.own ho).1, fun hn => ht ho hn ((k.own ho).2 hn)⟩, k.old, fun he => by
    obtain ⟨h0, o, h1, h2⟩ := k.map he
    exact ⟨h0, o, hm he o h2.noRow h1, h2.le le⟩⟩

structure Sim (N : Nat) (m : PMap) (h : AHeap) (fr : Nat → Prop) (w : World) : Prop where
  base : N ≤ w.heap.size
  blk : ∀ i b, h i = some b → ∃ p, m i = some p ∧ BlkOk N m w b p
  fresh : ∀ i, fr i → h i = none ∧ m i = none
  apart : ∀ i j bi bj pi pj, i ≠ j → h i = some bi → h j = some bj → bi.own = true → m i = some pi → m j = some pj → pi.blk ≠ pj.blk
  loop : ∀ i b, h i = some b → LB ≤ b.es → b.own = true ∧ ∃ p r, m i = some p ∧ w.heap[p.blk]? = some (.loop r) ∧ LRel b.es r

variable {N : Nat} {m : PMap} {h : AHeap} {fr : Nat → Prop} {w : World}

theorem Sim.mono (s : Sim N m h fr w) {fr' : Nat → Prop} (hf : ∀ i, fr' i → fr i) : Sim N m h fr' w :=
  ⟨s.base, s.blk, fun i hi => s.fresh i (hf i hi), s.apart, s.loop⟩

theorem rangeAt_eq {w w' : World} {b o : Nat} {xs : List Value} (r : w.rangeAt b o xs) (e : ∀ q, w'.cell? ⟨b, q, none⟩ = w.cell? ⟨b, q, none⟩) : w'.rangeAt b o xs := fun j v hv => by rw [e]; exact r j v hv

theorem Sim.drew (s : Sim N m h fr w) : Sim N m h fr w.drew :=
  ⟨s.base, fun i b hb => by
    obtain ⟨p, e, k⟩ := s.blk i b hb
    exact ⟨p, e, k.move (PMap.le_refl m) k.lt (fun _ _ q => by simpa using q) (fun _ _ t => by simpa using t) fun _ _ _ h => h⟩, s.fresh, s.apart, s.loop⟩
theorem heap_alloc_map {w : World} {o : Obj} {k : Nat} {x : Obj} (h : w.heap[k]? = some x) : (w.alloc o).heap[k]? = some x := (Go.RowKit.Below.heap_alloc w o k (Array.getElem?_eq_some_iff.1 h).1).trans h

/-- A new block. -/
theorem Sim.alloc (s : Sim N m h fr w) {i : Nat} (hi : fr i) (cs : List AV) (xs ys : List Value) (r : RelL m cs xs) (o : allOne cs = true) (e : TypeId) (es cap : Nat)
    (hc : cs.length ≤ cap) (hcap : cap ≤ (xs ++ ys).length) (hes : es < MB) :
    Sim N (m.put i ⟨w.heap.size, 0, cap, es⟩) (h.put i (some ⟨cs, es, true⟩)) (fun j => fr j ∧ j ≠ i) (w.alloc (.cells (xs ++ ys).toArray e)) ∧ m.le (m.put i ⟨w.heap.size, 0, cap, es⟩) := by
  obtain ⟨h0, m0⟩ := s.fresh i hi
  have hMB := MB_LB
  have le : m.le (m.put i ⟨w.heap.size, 0, cap, es⟩) := fun j p hj => by
    unfold PMap.put; by_cases c : j = i
    · subst c; rw [m0] at hj; cases hj
    · rw [if_neg c]; exact hj
  refine ⟨⟨by have := s.base; simp; omega, ?_, ?_, ?_, ?_⟩, le⟩
  · intro j b hb
    unfold AHeap.put at hb
    by_cases c : j = i
    · subst c
      rw [if_pos rfl] at hb
      obtain rfl := Option.some.inj hb
      refine ⟨⟨w.heap.size, 0, cap, es⟩, by simp [PMap.put], fun _ => rfl, fun _ => hc, by simp, fun _ => ⟨xs, RelL.le le r, ?_⟩, fun _ => o, fun _ => ⟨s.base, fun _ => ?_⟩, by simp, fun he => absurd he (by show ¬ es = MB; omega)⟩
      · intro j v hv
        show World.cell? _ ⟨w.heap.size, 0 + j, none⟩ = some v
        rw [World.cell?_alloc_new]
        simp only [Nat.zero_add]
        rw [List.getElem?_toArray, List.getElem?_append_left (List.getElem?_eq_some_iff.1 hv).1]; exact hv
      · intro j hj
        show (World.cell? _ ⟨w.heap.size, 0 + j, none⟩).isSome = true ∧ _
        rw [World.cell?_alloc_new]
        simp only [Nat.zero_add, List.getElem?_toArray]
        have hlt : j < (xs ++ ys).length := by show j < _; exact Nat.lt_of_lt_of_le hj hcap
        exact ⟨by rw [List.getElem?_eq_getElem hlt]; rfl, World.frozen?_alloc_at _ _ _ _ rfl⟩
    · rw [if_neg c] at hb
      obtain ⟨p, hp, k⟩ := s.blk j b hb
      exact ⟨p, le j p hp, k.move le (by have := k.lt; simp; omega) (fun _ _ q => World.rangeAt_alloc q _) (fun _ _ t => World.there_alloc t _) fun _ _ _ h => heap_alloc_map h⟩
  · rintro j ⟨hj, c⟩
    unfold AHeap.put PMap.put
    rw [if_neg c, if_neg c]; exact s.fresh j hj
  · intro a b ba bb pa pb hab hha hhb hown hma hmb
    unfold AHeap.put at hha hhb
    unfold PMap.put at hma hmb
    by_cases ca : a = i
    · rw [if_pos ca] at hma
      obtain rfl := Option.some.inj hma
      have cb : b ≠ i := fun c => hab (ca.trans c.symm)
      rw [if_neg cb] at hhb hmb
      obtain ⟨q, hq, k⟩ := s.blk b bb hhb
      rw [hmb] at hq; obtain rfl := Option.some.inj hq
      have := k.lt
      show w.heap.size ≠ pb.blk
      omega
    · rw [if_neg ca] at hha hma
      by_cases cb : b = i
      · rw [if_pos cb] at hmb
        obtain rfl := Option.some.inj hmb
        obtain ⟨q, hq, k⟩ := s.blk a ba hha
        rw [hma] at hq; obtain rfl := Option.some.inj hq
        have := k.lt
        show pa.blk ≠ w.heap.size
        omega
      · rw [if_neg cb] at hhb hmb
        exact s.apart a b ba bb pa pb hab hha hhb hown hma hmb
  · intro j b hj hb
    unfold AHeap.put at hj
    by_cases c : j = i
    · rw [if_pos c] at hj
      obtain rfl := Option.some.inj hj
      exact absurd hb (by show ¬ LB ≤ es; omega)
    · rw [if_neg c] at hj
      obtain ⟨ho, p, r, hp, hr, hl⟩ := s.loop j b hj hb
      exact ⟨ho, p, r, le j p hp, (Go.RowKit.Below.heap_alloc w _ _ (Array.getElem?_eq_some_iff.1 hr).1).trans hr, hl⟩

def splice (cs : List AV) (o : Nat) (vs : List AV) : List AV := cs.take o ++ vs ++ cs.drop (o + vs.length)

theorem splice_length {cs : List AV} {o : Nat} {vs : List AV} (h : o + vs.length ≤ cs.length) : (splice cs o vs).length = cs.length := by
  simp [splice]; omega

theorem relL_splice {cs vs : List AV} {xs ys : List Value} (r : RelL m cs xs) (q : RelL m vs ys) (o : Nat) : RelL m (splice cs o vs) (xs.take o ++ ys ++ xs.drop (o + ys.length)) := by
  unfold splice
  rw [q.length]
  exact ((r.take o).append q).append (r.drop _)

theorem setCells_splice {w : World} {b base : Nat} {xs ys : List Value} (r : w.rangeAt b base xs) (o : Nat) (ho : o + ys.length ≤ xs.length) :
    (w.setCells b (base + o) ys).rangeAt b base (xs.take o ++ ys ++ xs.drop (o + ys.length)) := by
  have hsome : ∀ j, j < ys.length → (w.cell? ⟨b, base + o + j, none⟩).isSome = true := fun j hj => by
    have := r.isSome (o + j) (by omega)
    rwa [← Nat.add_assoc] at this
  intro j v hv
  by_cases c1 : j < o
  · rw [World.cell?_setCells_out b ys (base + o) w _ (fun _ _ => .inl (by show base + j < base + o; omega))]
    refine r j v ?_
    rw [List.append_assoc, List.getElem?_append_left (by simp; omega), List.getElem?_take] at hv
    rwa [if_pos c1] at hv
  · by_cases c2 : j < o + ys.length
    · have e : base + j = base + o + (j - o) := by omega
      have hin := World.cell?_setCells_in b ys (base + o) w hsome (j - o) (by omega)
      rw [← e] at hin
      rw [hin, ← hv, List.append_assoc, List.getElem?_append_right (by simp; omega)]
      rw [List.getElem?_append_left (by simp; omega)]
      simp only [List.length_take]
      rw [show j - min o xs.length = j - o by omega, List.getElem?_eq_getElem (by omega)]
    · rw [World.cell?_setCells_out b ys (base + o) w _ (fun _ _ => .inr (by show base + o + ys.length ≤ base + j; omega))]
      refine r j v ?_
      rw [List.getElem?_append_right (by simp; omega), List.getElem?_drop] at hv
      simp only [List.length_append, List.length_take] at hv
      rwa [show o + ys.length + (j - (min o xs.length + ys.length)) = j by omega] at hv

theorem setCells_heap_size (b : Nat) : ∀ (vs : List Value) (o : Nat) (w : World), (w.setCells b o vs).heap.size = w.heap.size
  | [], _, _ => rfl
  | v :: r, o, w => by rw [World.setCells, setCells_heap_size b r]; simp [World.setCell]

/-- What else there is, behind a store into block 'p.blk'. -/
theorem BlkOk.setCells {b : ABlk} {q : Place} (k : BlkOk N m w b q) (g o : Nat) (ys : List Value) (hne : q.blk ≠ g) : BlkOk N m (w.setCells g o ys) b q := by
  exact k.move (PMap.le_refl m) (by rw [setCells_heap_size]; exact k.lt) (fun _ _ q => World.rangeAt_setCells_apart q _ _ _ (.inl hne)) (fun _ _ t => World.there_setCells t _ _ _) fun _ _ hn h => heap_setCells_other hn ys _ w h

/-- A store into an own block. -/
theorem Sim.store (s : Sim N m h fr w) {i : Nat} {b : ABlk} {p : Place} (hb : h i = some b) (hp : m i = some p) (own : b.own = true) (o : Nat) (vs : List AV) (ys : List Value)
    (r : RelL m vs ys) (one : allOne vs = true) (hfit : o + vs.length ≤ b.cells.length) (hn : b.es ≠ MB) :
    Sim N m (h.put i (some ⟨splice b.cells o vs, b.es, true⟩)) fr (w.setCells p.blk (p.base + o) ys) := by
  obtain ⟨p', hp', k⟩ := s.blk i b hb
  rw [hp] at hp'; obtain rfl := Option.some.inj hp'
  refine ⟨by rw [setCells_heap_size]; exact s.base, ?_, ?_, ?_, ?_⟩
  · intro j bj hj
    unfold AHeap.put at hj
    by_cases c : j = i
    · subst c
      rw [if_pos rfl] at hj
      obtain rfl := Option.some.inj hj
      obtain ⟨xs, rx, qx⟩ := k.cells hn
      refine ⟨p, hp, k.es, fun _ => by show (splice _ _ _).length ≤ _; rw [splice_length hfit]; exact k.fits hn, by rw [setCells_heap_size]; exact k.lt,
        fun _ => ⟨_, relL_splice rx r o, setCells_splice qx o (by rw [r.length, rx.length]; exact hfit)⟩, fun _ => ?_, fun _ => ⟨(k.own own).1, fun _ => World.there_setCells ((k.own own).2 hn) _ _ _⟩, by simp, fun he => absurd he hn⟩
      refine allOne_of fun v hv => ?_
      simp only [splice, List.mem_append] at hv
      rcases hv with (hv | hv) | hv
      · exact allOne_mem (k.one hn) (List.mem_of_mem_take hv)
      · exact allOne_mem one hv
      · exact allOne_mem (k.one hn) (List.mem_of_mem_drop hv)
    · rw [if_neg c] at hj
      obtain ⟨q, hq, kq⟩ := s.blk j bj hj
      exact ⟨q, hq, kq.setCells _ _ _ (fun e => s.apart i j b bj p q (fun e => c e.symm) hb hj own hp hq e.symm)⟩
  · intro j hj
    have := s.fresh j hj
    unfold AHeap.put
    by_cases c : j = i
    · subst c; rw [hb] at this; cases this.1
    · rw [if_neg c]; exact this
  · intro a c ba bc pa pc hac hha hhc hown hma hmc
    unfold AHeap.put at hha hhc
    by_cases ca : a = i
    · subst ca
      rw [if_neg (fun e => hac e.symm)] at hhc
      exact s.apart a c b bc pa pc hac hb hhc own hma hmc
    · rw [if_neg ca] at hha
      by_cases cc : c = i
      · subst cc
        exact s.apart a c ba b pa pc hac hha hb hown hma hmc
      · rw [if_neg cc] at hhc
        exact s.apart a c ba bc pa pc hac hha hhc hown hma hmc
  · intro j bj hj hes
    unfold AHeap.put at hj
    have key : ∀ b', h j = some b' → bj.es = b'.es → (b'.own = true → bj.own = true) → bj.own = true ∧ ∃ q r, m j = some q ∧ (w.setCells p.blk (p.base + o) ys).heap[q.blk]? = some (.loop r) ∧ LRel bj.es r := by
      intro b' hb' he hown
      obtain ⟨ho, q, r, hq, hr, hl⟩ := s.loop j b' hb' (he ▸ hes)
      exact ⟨hown ho, q, r, hq, heap_setCells_other (by intro c e f q; cases q) ys _ w hr, he ▸ hl⟩
    by_cases c : j = i
    · subst c
      rw [if_pos rfl] at hj
      obtain rfl := Option.some.inj hj
      exact key b hb rfl (fun _ => rfl)
    · rw [if_neg c] at hj
      exact key bj hj rfl id

/-- An own block goes. -/
theorem Sim.kill (s : Sim N m h fr w) (i : Nat) : Sim N m (h.put i none) fr w := by
  refine ⟨s.base, ?_, ?_, ?_, ?_⟩
  · intro j bj hj
    unfold AHeap.put at hj
    by_cases c : j = i
    · rw [if_pos c] at hj; cases hj
    · rw [if_neg c] at hj; exact s.blk j bj hj
  · intro j hj
    have := s.fresh j hj
    unfold AHeap.put
    by_cases c : j = i
    · rw [if_pos c]; exact ⟨rfl, this.2⟩
    · rw [if_neg c]; exact this
  · intro a c ba bc pa pc hac hha hhc hown hma hmc
    unfold AHeap.put at hha hhc
    by_cases ca : a = i
    · rw [if_pos ca] at hha; cases hha
    · rw [if_neg ca] at hha
      by_cases cc : c = i
      · rw [if_pos cc] at hhc; cases hhc
      · rw [if_neg cc] at hhc
        exact s.apart a c ba bc pa pc hac hha hhc hown hma hmc
  · intro j bj hj hes
    unfold AHeap.put at hj
    by_cases c : j = i
    · rw [if_pos c] at hj; cases hj
    · rw [if_neg c] at hj; exact s.loop j bj hj hes

/-- An append in place: the block's part from offset o on, and behind it what is stored there, is a block of its own from now on. -/
theorem Sim.onto (s : Sim N m h fr w) {i k : Nat} {b : ABlk} {p : Place} (hb : h i = some b) (hp : m i = some p) (own : b.own = true) (hk : fr k) (o l c : Nat) (vs : List AV) (ys : List Value)
    (r : RelL m vs ys) (one : allOne vs = true) (hl : o + l ≤ b.cells.length) (hc : l + vs.length ≤ c) (hcap : o + c ≤ p.cap) (hn : b.es ≠ MB) :
    Sim N (m.put k ⟨p.blk, p.base + o, c, b.es⟩) ((h.put i none).put k (some ⟨(b.cells.drop o).take l ++ vs, b.es, true⟩)) (fun j => fr j ∧ j ≠ k) (w.setCells p.blk (p.base + o + l) ys) ∧
      m.le (m.put k ⟨p.blk, p.base + o, c, b.es⟩) := by
  obtain ⟨p', hp', ok⟩ := s.blk i b hb
  rw [hp] at hp'; obtain rfl := Option.some.inj hp'
  obtain ⟨h0, m0⟩ := s.fresh k hk
  have hik : i ≠ k := fun e => by subst e; rw [hb] at h0; cases h0
  have le : m.le (m.put k ⟨p.blk, p.base + o, c, b.es⟩) := fun j q hj => by
    unfold PMap.put; by_cases e : j = k
    · subst e; rw [m0] at hj; cases hj
    · rw [if_neg e]; exact hj
  have hys : ys.length = vs.length := r.length
  refine ⟨⟨by rw [setCells_heap_size]; exact s.base, ?_, ?_, ?_, ?_⟩, le⟩
  · intro j bj hj
    unfold AHeap.put at hj
    by_cases e : j = k
    · subst e
      rw [if_pos rfl] at hj
      obtain rfl := Option.some.inj hj
      obtain ⟨xs, rx, qx⟩ := ok.cells hn
      obtain ⟨hN, ht⟩ := ok.own own
      have ht := ht hn
      have hxs : xs.length = b.cells.length := rx.length
      refine ⟨⟨p.blk, p.base + o, c, b.es⟩, by simp [PMap.put], fun _ => rfl, fun _ => by simp; omega, by rw [setCells_heap_size]; exact ok.lt, fun _ => ⟨(xs.drop o).take l ++ ys, (((RelL.le le rx).drop o).take l).append (RelL.le le r), ?_⟩, fun _ => ?_, fun _ => ⟨hN, fun _ => ?_⟩, by simp, fun he => absurd he hn⟩
      · intro j v hv
        show World.cell? _ ⟨p.blk, p.base + o + j, none⟩ = some v
        by_cases c1 : j < l
        · rw [World.cell?_setCells_out _ _ _ _ _ (fun _ _ => .inl (by show p.base + o + j < p.base + o + l; omega))]
          rw [List.getElem?_append_left (by simp; omega), List.getElem?_take, if_pos c1, List.getElem?_drop] at hv
          have := qx (o + j) v hv
          rwa [← Nat.add_assoc] at this
        · have hlen : ((xs.drop o).take l).length = l := by simp; omega
          rw [List.getElem?_append_right (by omega), hlen] at hv
          have hj : j - l < ys.length := (List.getElem?_eq_some_iff.1 hv).1
          have hin := World.cell?_setCells_in p.blk ys (p.base + o + l) w (fun t ht' => by
            have := (ht (o + l + t) (by omega)).1
            rwa [show p.base + (o + l + t) = p.base + o + l + t by omega] at this) (j - l) hj
          rw [show p.base + o + l + (j - l) = p.base + o + j by omega] at hin
          rw [hin, ← hv, List.getElem?_eq_getElem hj]
      · refine allOne_of fun v hv => ?_
        simp only [List.mem_append] at hv
        rcases hv with hv | hv
        · exact allOne_mem (ok.one hn) (List.mem_of_mem_drop (List.mem_of_mem_take hv))
        · exact allOne_mem one hv
      · refine World.there_setCells (fun t htc => ?_) _ _ _
        have := ht (o + t) (by have : t < c := htc; omega)
        show (w.cell? ⟨p.blk, p.base + o + t, none⟩).isSome = true ∧ w.frozen? ⟨p.blk, p.base + o + t, none⟩ = false
        rwa [← Nat.add_assoc] at this
    · rw [if_neg e] at hj
      by_cases e' : j = i
      · rw [if_pos e'] at hj; cases hj
      · rw [if_neg e'] at hj
        obtain ⟨q, hq, kq⟩ := s.blk j bj hj
        have k2 := kq.setCells p.blk (p.base + o + l) ys (fun e => s.apart i j b bj p q (fun e => e' e.symm) hb hj own hp hq e.symm)
        exact ⟨q, le j q hq, k2.move le k2.lt (fun _ _ q => q) (fun _ _ t => t) fun _ _ _ h => h⟩
  · rintro j ⟨hj, e⟩
    have := s.fresh j hj
    unfold AHeap.put PMap.put
    rw [if_neg e, if_neg e]
    by_cases e' : j = i
    · rw [if_pos e']; exact ⟨rfl, this.2⟩
    · rw [if_neg e']; exact this
  · intro x y bx by' px py hxy hhx hhy hown hmx hmy
    unfold AHeap.put at hhx hhy
    unfold PMap.put at hmx hmy
    by_cases ex : x = k
    · have ey : y ≠ k := fun e => hxy (ex.trans e.symm)
      rw [if_pos ex] at hmx
      rw [if_neg ey] at hhy hmy
      obtain rfl := Option.some.inj hmx
      by_cases ey' : y = i
      · rw [if_pos ey'] at hhy; cases hhy
      · rw [if_neg ey'] at hhy
        exact s.apart i y b by' p py (fun e => ey' e.symm) hb hhy own hp hmy
    · rw [if_neg ex] at hhx hmx
      by_cases ex' : x = i
      · rw [if_pos ex'] at hhx; cases hhx
      · rw [if_neg ex'] at hhx
        by_cases ey : y = k
        · rw [if_pos ey] at hmy
          obtain rfl := Option.some.inj hmy
          exact fun e => s.apart i x b bx p px (fun e => ex' e.symm) hb hhx own hp hmx e.symm
        · rw [if_neg ey] at hhy hmy
          by_cases ey' : y = i
          · rw [if_pos ey'] at hhy; cases hhy
          · rw [if_neg ey'] at hhy
            exact s.apart x y bx by' px py hxy hhx hhy hown hmx hmy
  · intro j bj hj hes
    unfold AHeap.put at hj
    by_cases e : j = k
    · subst e
      rw [if_pos rfl] at hj
      obtain rfl := Option.some.inj hj
      obtain ⟨ho, q, r, hq, hr, hl⟩ := s.loop i b hb hes
      rw [hp] at hq; obtain rfl := Option.some.inj hq
      exact ⟨rfl, ⟨p.blk, p.base + o, c, b.es⟩, r, by simp [PMap.put], heap_setCells_other (by intro c e f q; cases q) ys _ w hr, hl⟩
    · rw [if_neg e] at hj
      by_cases e' : j = i
      · rw [if_pos e'] at hj; cases hj
      · rw [if_neg e'] at hj
        obtain ⟨ho, q, r, hq, hr, hl⟩ := s.loop j bj hj hes
        exact ⟨ho, q, r, le j q hq, heap_setCells_other (by intro c e f q; cases q) ys _ w hr, hl⟩

/-- What is no cells, and no loop that the heap speaks of, may turn into what is no cells. -/
theorem cell?_other {w : World} {b o : Nat} {ob : Obj} (h : w.heap[b]? = some ob) (ho : ∀ c e f, ob ≠ .cells c e f) : w.cell? ⟨b, o, none⟩ = none := by
  unfold World.cell?
  simp only [h]
  cases ob with
  | cells c e f => exact absurd rfl (ho c e f)
  | _ => rfl
theorem BlkOk.putObj {b : ABlk} {p : Place} (k : BlkOk N m w b p) {r : Nat} {o o' : Obj} (hr : w.heap[r]? = some o) (h1 : ∀ c e f, o ≠ .cells c e f) (h2 : ∀ c e f, o' ≠ .cells c e f) (h3 : b.es = MB → p.blk ≠ r) : BlkOk N m (w.putObj r o') b p := by
  have hlt := (Array.getElem?_eq_some_iff.1 hr).1
  have hc : ∀ q a, (w.putObj r o').cell? ⟨q, a, none⟩ = w.cell? ⟨q, a, none⟩ := by
    intro q a
    by_cases e : q = r
    · subst e; rw [cell?_other (World.putObj_heap_same hlt) h2, cell?_other hr h1]
    · exact World.cell?_of_block (w := w) (World.putObj_heap_other e)
  have hf : ∀ q a, w.frozen? ⟨q, a, none⟩ = false → (w.putObj r o').frozen? ⟨q, a, none⟩ = false := by
    intro q a hq
    by_cases e : q = r
    · subst e
      unfold World.frozen?
      simp only [World.putObj_heap_same hlt]
      cases o' with
      | cells c e f => exact absurd rfl (h2 c e f)
      | _ => rfl
    · rw [World.frozen?_of_block (w := w) (World.putObj_heap_other e)]; exact hq
  exact k.move (PMap.le_refl m) (by simpa using k.lt) (fun _ _ q => rangeAt_eq q (fun q => hc _ _)) (fun _ _ t j hj => by
    obtain ⟨a, b⟩ := t j hj
    rw [hc]; exact ⟨a, hf _ _ b⟩) fun he _ _ h => (World.putObj_heap_other (h3 he)).trans h
theorem Sim.putObj (s : Sim N m h fr w) {r : Nat} {o o' : Obj} (hr : w.heap[r]? = some o) (h1 : ∀ c e f, o ≠ .cells c e f) (h2 : ∀ c e f, o' ≠ .cells c e f)
    (hl : ∀ i b p, h i = some b → LB ≤ b.es → m i = some p → p.blk ≠ r) (h3 : ∀ m cs, ¬ ObjOk m cs o) : Sim N m h fr (w.putObj r o') := by
  refine ⟨by simpa using s.base, ?_, s.fresh, s.apart, ?_⟩
  · intro i b hb
    obtain ⟨p, hp, k⟩ := s.blk i b hb
    refine ⟨p, hp, k.putObj hr h1 h2 fun he e => ?_⟩
    obtain ⟨_, o2, hm, ho2⟩ := k.map he
    rw [e, hr] at hm
    obtain rfl := Option.some.inj hm
    exact h3 _ _ ho2
  · intro i b hb hes
    obtain ⟨ho, p, q, hp, hq, hlr⟩ := s.loop i b hb hes
    exact ⟨ho, p, q, hp, (World.putObj_heap_other (hl i b p hb hes hp)).trans hq, hlr⟩

/-- A loop's record turns, and the heap with it. -/
theorem Sim.setLoop (s : Sim N m h fr w) {i : Nat} {b : ABlk} {p : Place} {r : Loop} (hb : h i = some b) (hes : LB ≤ b.es) (hp : m i = some p) (hr : w.heap[p.blk]? = some (.loop r)) {es : Nat} {r' : Loop} (hes' : LB ≤ es) (hl : LRel es r') :
    Sim N m (h.put i (some ⟨[], es, true⟩)) fr (w.putObj p.blk (.loop r')) := by
  obtain ⟨ho, q, r0, hq, hr0, _⟩ := s.loop i b hb hes
  rw [hp] at hq; obtain rfl := Option.some.inj hq
  have hlt := (Array.getElem?_eq_some_iff.1 hr).1
  have nc : ∀ (r : Loop) c e f, Obj.loop r ≠ .cells c e f := by intro r c e f q; cases q
  have hap : ∀ j bj pj, j ≠ i → h j = some bj → m j = some pj → pj.blk ≠ p.blk := fun j bj pj hj hbj hpj e => s.apart i j b bj p pj (fun e => hj e.symm) hb hbj ho hp hpj e.symm
  refine ⟨by simpa using s.base, ?_, ?_, ?_, ?_⟩
  · intro j bj hj
    unfold AHeap.put at hj
    by_cases c : j = i
    · subst c
      rw [if_pos rfl] at hj
      obtain rfl := Option.some.inj hj
      obtain ⟨p', hp', k⟩ := s.blk j b hb
      rw [hp] at hp'; obtain rfl := Option.some.inj hp'
      have hMB := MB_LB
      have k2 := k.putObj (o' := .loop r') hr (nc _) (nc _) fun he => by omega
      exact ⟨p, hp, fun hq => absurd hq (by show ¬ es < LB; omega), fun _ => Nat.zero_le _, k2.lt, fun _ => ⟨[], by simp [RelL], fun j v hv => by simp at hv⟩, fun _ => rfl, fun _ => ⟨(k2.own ho).1, fun _ => (k2.own ho).2 (by omega)⟩, fun hq => (by cases hq), fun he => absurd he (by show ¬ es = MB; omega)⟩
    · rw [if_neg c] at hj
      obtain ⟨q, hq, k⟩ := s.blk j bj hj
      exact ⟨q, hq, k.putObj hr (nc _) (nc _) fun _ => hap j bj q c hj hq⟩
  · intro j hj
    have := s.fresh j hj
    unfold AHeap.put
    by_cases c : j = i
    · subst c; rw [hb] at this; cases this.1
    · rw [if_neg c]; exact this
  · intro x y bx by' px py hxy hhx hhy hown hmx hmy
    unfold AHeap.put at hhx hhy
    by_cases cx : x = i
    · subst cx
      rw [if_neg (fun e => hxy e.symm)] at hhy
      exact s.apart x y b by' px py hxy hb hhy ho hmx hmy
    · rw [if_neg cx] at hhx
      by_cases cy : y = i
      · subst cy
        exact s.apart x y bx b px py hxy hhx hb hown hmx hmy
      · rw [if_neg cy] at hhy
        exact s.apart x y bx by' px py hxy hhx hhy hown hmx hmy
  · intro j bj hj hbes
    unfold AHeap.put at hj
    by_cases c : j = i
    · subst c
      rw [if_pos rfl] at hj
      obtain rfl := Option.some.inj hj
      exact ⟨rfl, p, r', hp, World.putObj_heap_same hlt, hl⟩
    · rw [if_neg c] at hj
      obtain ⟨hoj, q, rj, hq, hrj, hlj⟩ := s.loop j bj hj hbes
      exact ⟨hoj, q, rj, hq, (World.putObj_heap_other (hap j bj q c hj hq)).trans hrj, hlj⟩

/-- A mark behind a new row's end. -/
theorem Sim.mark {c : Array Value} {e : TypeId} (s : Sim N m h fr (w.alloc (.cells c e))) (n k : Nat) (hn : c.size ≤ n) : Sim N m h fr (w.alloc (.cells c e (n, k))) := by
  have hold : ∀ (o : Obj) (j : Nat), j ≠ w.heap.size → (w.alloc o).heap[j]? = w.heap[j]? := fun o j hj => by
    show (w.heap.push o)[j]? = _
    rw [Array.getElem?_push, if_neg hj]
  have hnew : ∀ (o : Obj), (w.alloc o).heap[w.heap.size]? = some o := fun o => by
    show (w.heap.push o)[w.heap.size]? = _
    simp
  have hc : ∀ b j, (w.alloc (.cells c e (n, k))).cell? ⟨b, j, none⟩ = (w.alloc (.cells c e)).cell? ⟨b, j, none⟩ := fun b j => by
    by_cases hb : b = w.heap.size
    · subst hb; simp only [World.cell?, hnew]
    · simp only [World.cell?, hold _ _ hb]
  have ht : ∀ b o q, (w.alloc (.cells c e)).there b o q → (w.alloc (.cells c e (n, k))).there b o q := fun b o q t j hj => by
    obtain ⟨t1, t2⟩ := t j hj
    refine ⟨by rw [hc]; exact t1, ?_⟩
    by_cases hb : b = w.heap.size
    · subst hb
      simp only [World.cell?, hnew] at t1
      have : o + j < c.size := by
        simp at t1; exact t1
      simp only [World.frozen?, hnew]
      simp; omega
    · simp only [World.frozen?, hold _ _ hb] at t2 ⊢; exact t2
  have hm : ∀ (j : Nat) (x : Obj), (∀ c e f, x ≠ .cells c e f) → (w.alloc (.cells c e)).heap[j]? = some x → (w.alloc (.cells c e (n, k))).heap[j]? = some x := fun j x hx hj => by
    by_cases hb : j = w.heap.size
    · subst hb; rw [hnew] at hj; exact absurd (Option.some.inj hj).symm (hx _ _ _)
    · rw [hold _ _ hb] at hj ⊢; exact hj
  have hz : (w.alloc (.cells c e (n, k))).heap.size = (w.alloc (.cells c e)).heap.size := by simp
  refine ⟨by rw [hz]; exact s.base, ?_, s.fresh, s.apart, ?_⟩
  · intro i b hb
    obtain ⟨p, hp, q⟩ := s.blk i b hb
    exact ⟨p, hp, q.move (PMap.le_refl m) (by rw [hz]; exact q.lt) (fun _ _ r => rangeAt_eq r fun _ => hc _ _) (fun _ _ t => ht _ _ _ t) fun _ _ hn h => hm _ _ hn h⟩
  · intro i b hb hes
    obtain ⟨ho, p, r, hp, hr, hl⟩ := s.loop i b hb hes
    exact ⟨ho, p, r, hp, hm _ _ (by intro c e f q; cases q) hr, hl⟩
/-- A block of another kind is laid. -/
theorem Sim.allocOther (s : Sim N m h fr w) (o : Obj) : Sim N m h fr (w.alloc o) := by
  refine ⟨by have := s.base; simp; omega, ?_, s.fresh, s.apart, ?_⟩
  · intro i b hb
    obtain ⟨p, hp, k⟩ := s.blk i b hb
    exact ⟨p, hp, k.move (PMap.le_refl m) (by have := k.lt; simp; omega) (fun _ _ q => World.rangeAt_alloc q _) (fun _ _ t => World.there_alloc t _) fun _ _ _ h => heap_alloc_map h⟩
  · intro i b hb hes
    obtain ⟨ho, p, r, hp, hr, hl⟩ := s.loop i b hb hes
    exact ⟨ho, p, r, hp, (Go.RowKit.Below.heap_alloc w _ _ (Array.getElem?_eq_some_iff.1 hr).1).trans hr, hl⟩
/-- A loop's record is laid. -/
theorem Sim.allocLoop (s : Sim N m h fr w) {i : Nat} (hi : fr i) {r : Loop} (hl : LRel LB r) :
    Sim N (m.put i ⟨w.heap.size, 0, 0, 0⟩) (h.put i (some ⟨[], LB, true⟩)) (fun j => fr j ∧ j ≠ i) (w.alloc (.loop r)) ∧ m.le (m.put i ⟨w.heap.size, 0, 0, 0⟩) := by
  obtain ⟨h0, m0⟩ := s.fresh i hi
  have le : m.le (m.put i ⟨w.heap.size, 0, 0, 0⟩) := fun j p hj => by
    unfold PMap.put; by_cases c : j = i
    · subst c; rw [m0] at hj; cases hj
    · rw [if_neg c]; exact hj
  have s' := s.allocOther (.loop r)
  refine ⟨⟨s'.base, ?_, ?_, ?_, ?_⟩, le⟩
  · intro j b hb
    unfold AHeap.put at hb
    by_cases c : j = i
    · subst c
      rw [if_pos rfl] at hb
      obtain rfl := Option.some.inj hb
      exact ⟨⟨w.heap.size, 0, 0, 0⟩, by simp [PMap.put], fun hq => absurd hq (by show ¬ LB < LB; omega), fun _ => Nat.zero_le _, by simp, fun _ => ⟨[], by simp [RelL], fun j v hv => by simp at hv⟩, fun _ => rfl, fun _ => ⟨s.base, fun _ j hj => absurd hj (Nat.not_lt_zero _)⟩, fun hq => (by cases hq), fun he => absurd he (by show ¬ LB = MB; decide)⟩
    · rw [if_neg c] at hb
      obtain ⟨p, hp, k⟩ := s'.blk j b hb
      exact ⟨p, le j p hp, k.move le k.lt (fun _ _ q => q) (fun _ _ t => t) fun _ _ _ h => h⟩
  · rintro j ⟨hj, c⟩
    unfold AHeap.put PMap.put
    rw [if_neg c, if_neg c]; exact s.fresh j hj
  · intro a b ba bb pa pb hab hha hhb hown hma hmb
    unfold AHeap.put at hha hhb
    unfold PMap.put at hma hmb
    by_cases ca : a = i
    · rw [if_pos ca] at hma
      obtain rfl := Option.some.inj hma
      have cb : b ≠ i := fun c => hab (ca.trans c.symm)
      rw [if_neg cb] at hhb hmb
      obtain ⟨q, hq, k⟩ := s.blk b bb hhb
      rw [hmb] at hq; obtain rfl := Option.some.inj hq
      have := k.lt
      show w.heap.size ≠ pb.blk
      omega
    · rw [if_neg ca] at hha hma
      by_cases cb : b = i
      · rw [if_pos cb] at hmb
        obtain rfl := Option.some.inj hmb
        obtain ⟨q, hq, k⟩ := s.blk a ba hha
        rw [hma] at hq; obtain rfl := Option.some.inj hq
        have := k.lt
        show pa.blk ≠ w.heap.size
        omega
      · rw [if_neg cb] at hhb hmb
        exact s.apart a b ba bb pa pb hab hha hhb hown hma hmb
  · intro j b hj hb
    unfold AHeap.put at hj
    by_cases c : j = i
    · subst c
      rw [if_pos rfl] at hj
      obtain rfl := Option.some.inj hj
      exact ⟨rfl, ⟨w.heap.size, 0, 0, 0⟩, r, by simp [PMap.put], World.alloc_heap_new w _, hl⟩
    · rw [if_neg c] at hj
      obtain ⟨ho, p, r0, hp, hr, hl⟩ := s'.loop j b hj hb
      exact ⟨ho, p, r0, le j p hp, hr, hl⟩

/-- A map, or an iterator, is laid. -/
theorem Sim.allocObj (s : Sim N m h fr w) {i : Nat} (hi : fr i) {cs : List AV} {o : Obj} (r : ObjOk m cs o) :
    Sim N (m.put i ⟨w.heap.size, 0, 0, MB⟩) (h.put i (some ⟨cs, MB, true⟩)) (fun j => fr j ∧ j ≠ i) (w.alloc o) ∧ m.le (m.put i ⟨w.heap.size, 0, 0, MB⟩) := by
  obtain ⟨h0, m0⟩ := s.fresh i hi
  have hMB := MB_LB
  have le : m.le (m.put i ⟨w.heap.size, 0, 0, MB⟩) := fun j p hj => by
    unfold PMap.put; by_cases c : j = i
    · subst c; rw [m0] at hj; cases hj
    · rw [if_neg c]; exact hj
  have s' := s.allocOther o
  refine ⟨⟨s'.base, ?_, ?_, ?_, ?_⟩, le⟩
  · intro j b hb
    unfold AHeap.put at hb
    by_cases c : j = i
    · subst c
      rw [if_pos rfl] at hb
      obtain rfl := Option.some.inj hb
      exact ⟨⟨w.heap.size, 0, 0, MB⟩, by simp [PMap.put], fun _ => rfl, fun hn => absurd rfl hn, by simp, fun hn => absurd rfl hn, fun hn => absurd rfl hn, fun _ => ⟨s.base, fun hn => absurd rfl hn⟩, fun hq => (by cases hq), fun _ => ⟨rfl, o, World.alloc_heap_new w _, r.le le⟩⟩
    · rw [if_neg c] at hb
      obtain ⟨p, hp, k⟩ := s'.blk j b hb
      exact ⟨p, le j p hp, k.move le k.lt (fun _ _ q => q) (fun _ _ t => t) fun _ _ _ h => h⟩
  · rintro j ⟨hj, c⟩
    unfold AHeap.put PMap.put
    rw [if_neg c, if_neg c]; exact s.fresh j hj
  · intro a b ba bb pa pb hab hha hhb hown hma hmb
    unfold AHeap.put at hha hhb
    unfold PMap.put at hma hmb
    by_cases ca : a = i
    · rw [if_pos ca] at hma
      obtain rfl := Option.some.inj hma
      have cb : b ≠ i := fun c => hab (ca.trans c.symm)
      rw [if_neg cb] at hhb hmb
      obtain ⟨q, hq, k⟩ := s.blk b bb hhb
      rw [hmb] at hq; obtain rfl := Option.some.inj hq
      have := k.lt
      show w.heap.size ≠ pb.blk
      omega
    · rw [if_neg ca] at hha hma
      by_cases cb : b = i
      · rw [if_pos cb] at hmb
        obtain rfl := Option.some.inj hmb
        obtain ⟨q, hq, k⟩ := s.blk a ba hha
        rw [hma] at hq; obtain rfl := Option.some.inj hq
        have := k.lt
        show pa.blk ≠ w.heap.size
        omega
      · rw [if_neg cb] at hhb hmb
        exact s.apart a b ba bb pa pb hab hha hhb hown hma hmb
  · intro j b hj hb
    unfold AHeap.put at hj
    by_cases c : j = i
    · subst c
      rw [if_pos rfl] at hj
      obtain rfl := Option.some.inj hj
      exact absurd hb (by show ¬ LB ≤ MB; omega)
    · rw [if_neg c] at hj
      obtain ⟨ho, p, r0, hp, hr, hl⟩ := s'.loop j b hj hb
      exact ⟨ho, p, r0, le j p hp, hr, hl⟩

theorem Sim.allocMap (s : Sim N m h fr w) {i : Nat} (hi : fr i) {cs : List AV} {en : Array MapEntry} {ck : Nat} (r : EntRel m cs en.toList) (hst : MapKept.Stamped en ck) :
    Sim N (m.put i ⟨w.heap.size, 0, 0, MB⟩) (h.put i (some ⟨cs, MB, true⟩)) (fun j => fr j ∧ j ≠ i) (w.alloc (.map en ck)) ∧ m.le (m.put i ⟨w.heap.size, 0, 0, MB⟩) :=
  s.allocObj hi (.inl ⟨en, ck, rfl, r, hst⟩)

/-- A map, or an iterator, turns. -/
theorem Sim.setObj (s : Sim N m h fr w) {i : Nat} {b : ABlk} {p : Place} (hb : h i = some b) (hes : b.es = MB) (hown : b.own = true) (hp : m i = some p) {cs : List AV} {o : Obj} (r : ObjOk m cs o) :
    Sim N m (h.put i (some ⟨cs, MB, true⟩)) fr (w.putObj p.blk o) := by
  obtain ⟨q, hq, kb⟩ := s.blk i b hb
  rw [hp] at hq; obtain rfl := Option.some.inj hq
  have hMB := MB_LB
  obtain ⟨hz, o0, hr, hk0⟩ := kb.map hes
  have hlt := (Array.getElem?_eq_some_iff.1 hr).1
  have hap : ∀ j bj pj, j ≠ i → h j = some bj → m j = some pj → pj.blk ≠ p.blk := fun j bj pj hj hbj hpj e => s.apart i j b bj p pj (fun e => hj e.symm) hb hbj hown hp hpj e.symm
  refine ⟨by simpa using s.base, ?_, ?_, ?_, ?_⟩
  · intro j bj hj
    unfold AHeap.put at hj
    by_cases c : j = i
    · subst c
      rw [if_pos rfl] at hj
      obtain rfl := Option.some.inj hj
      exact ⟨p, hp, fun hq => (kb.es (by omega)).trans hes, fun hn => absurd rfl hn, by simpa using hlt, fun hn => absurd rfl hn, fun hn => absurd rfl hn, fun _ => ⟨(kb.own hown).1, fun hn => absurd rfl hn⟩, fun hq => (by cases hq), fun _ => ⟨hz, o, World.putObj_heap_same hlt, r⟩⟩
    · rw [if_neg c] at hj
      obtain ⟨q, hq, k⟩ := s.blk j bj hj
      exact ⟨q, hq, k.putObj hr hk0.noRow r.noRow fun _ => hap j bj q c hj hq⟩
  · intro j hj
    have := s.fresh j hj
    unfold AHeap.put
    by_cases c : j = i
    · subst c; rw [hb] at this; cases this.1
    · rw [if_neg c]; exact this
  · intro x y bx by' px py hxy hhx hhy ho hmx hmy
    unfold AHeap.put at hhx hhy
    by_cases cx : x = i
    · subst cx
      rw [if_neg (fun e => hxy e.symm)] at hhy
      exact s.apart x y b by' px py hxy hb hhy hown hmx hmy
    · rw [if_neg cx] at hhx
      by_cases cy : y = i
      · subst cy
        exact s.apart x y bx b px py hxy hhx hb ho hmx hmy
      · rw [if_neg cy] at hhy
        exact s.apart x y bx by' px py hxy hhx hhy ho hmx hmy
  · intro j bj hj hbes
    unfold AHeap.put at hj
    by_cases c : j = i
    · rw [if_pos c] at hj
      obtain rfl := Option.some.inj hj
      exact absurd hbes (by show ¬ LB ≤ MB; omega)
    · rw [if_neg c] at hj
      obtain ⟨hoj, q, rj, hq, hrj, hlj⟩ := s.loop j bj hj hbes
      exact ⟨hoj, q, rj, hq, (World.putObj_heap_other (hap j bj q c hj hq)).trans hrj, hlj⟩

theorem Sim.setMap (s : Sim N m h fr w) {i : Nat} {b : ABlk} {p : Place} (hb : h i = some b) (hes : b.es = MB) (hown : b.own = true) (hp : m i = some p) {cs : List AV} {en : Array MapEntry} {ck : Nat} (r : EntRel m cs en.toList) (hst : MapKept.Stamped en ck) :
    Sim N m (h.put i (some ⟨cs, MB, true⟩)) fr (w.putObj p.blk (.map en ck)) := s.setObj hb hes hown hp (.inl ⟨en, ck, rfl, r, hst⟩)

end Go.Proofs.YtahilinkfnchaaaDoor.T
