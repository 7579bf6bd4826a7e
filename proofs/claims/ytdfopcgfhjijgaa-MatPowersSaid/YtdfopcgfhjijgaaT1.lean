/- The abstract heap against memory: what lies where, and what a new block, a store, an append in place do to it. Nothing of a program. -/
import Derived.Test.YtdfopcgfhjijgaaT0
import Derived.Deep.MidRow
import Derived.Deep.AppendSrc
import Derived.Laws.AppendOwn
import Derived.Lib.LazyBuf
set_option linter.unusedVariables false
set_option linter.unusedSimpArgs false
namespace Go.Proofs.Ytdfopcgfhjijgaa.T
open Go Go.RowKit

theorem Rel.one {m : PMap} {v : AV} {x : Value} (h : Rel m v x) (o : v.one = true) : x.oneCell' = true := by
  cases v with
  | agg cs => simp [AV.one] at o
  | tuple cs => simp [AV.one] at o
  | bad => simp [AV.one] at o
  | ptr a => cases a <;> simp only [Rel] at h <;> (try obtain ⟨p, e, rfl⟩ := h) <;> (try subst h) <;> rfl
  | slice a n c => cases a with
    | none => simp only [Rel] at h; obtain ⟨rfl, rfl⟩ := h; rfl
    | some a => simp only [Rel] at h; obtain ⟨p, A, c', e, rfl, q⟩ := h; rfl
  | fn f a b => simp only [Rel] at h; obtain ⟨us, vs, rfl, q⟩ := h; rfl
  | iface t v => simp only [Rel] at h; obtain ⟨y, rfl, q⟩ := h; rfl
  | mapv r => cases r with
    | none => simp only [Rel] at h; subst h; rfl
    | some r => simp only [Rel] at h; obtain ⟨p, e, rfl⟩ := h; rfl
  | bool b => simp only [Rel] at h; subst h; rfl
  | int k n => simp only [Rel] at h; subst h; rfl
  | str s => simp only [Rel] at h; subst h; rfl
  | nilFn => simp only [Rel] at h; subst h; rfl
  | nilIface => simp only [Rel] at h; subst h; rfl

theorem RelL.one {m : PMap} : ∀ {vs : List AV} {xs : List Value}, RelL m vs xs → allOne vs = true → ∀ x ∈ xs, x.oneCell' = true
  | [], xs, r, _ => by simp only [RelL] at r; subst r; intro x hx; cases hx
  | v :: vs, xs, r, o => by
    simp only [RelL] at r; obtain ⟨y, q, rfl, a, b⟩ := r
    simp only [allOne, List.all_cons, Bool.and_eq_true] at o
    intro x hx
    cases hx with
    | head => exact Rel.one a o.1
    | tail _ hx => exact RelL.one b o.2 x hx
theorem allOne_mem {vs : List AV} (h : allOne vs = true) {v : AV} (hv : v ∈ vs) : v.one = true := by
  simp only [allOne, List.all_eq_true] at h; exact h v hv
theorem allOne_of {vs : List AV} (h : ∀ v ∈ vs, v.one = true) : allOne vs = true := by
  simp only [allOne, List.all_eq_true]; exact h

/-- What an abstract block says of memory. -/
structure BlkOk (N : Nat) (m : PMap) (w : World) (b : ABlk) (p : Place) : Prop where
  es : p.es = b.es
  fits : b.cells.length ≤ p.cap
  lt : p.blk < w.heap.size
  cells : ∃ xs, RelL m b.cells xs ∧ w.rangeAt p.blk p.base xs
  one : allOne b.cells = true
  own : b.own = true → N ≤ p.blk ∧ w.there p.blk p.base p.cap
  old : b.own = false → p.blk < N

structure Sim (N : Nat) (m : PMap) (h : AHeap) (fr : Nat → Prop) (w : World) : Prop where
  base : N ≤ w.heap.size
  blk : ∀ i b, h i = some b → ∃ p, m i = some p ∧ BlkOk N m w b p
  fresh : ∀ i, fr i → h i = none ∧ m i = none
  apart : ∀ i j bi bj pi pj, i ≠ j → h i = some bi → h j = some bj → bi.own = true → m i = some pi → m j = some pj → pi.blk ≠ pj.blk

variable {N : Nat} {m : PMap} {h : AHeap} {fr : Nat → Prop} {w : World}

theorem Sim.mono (s : Sim N m h fr w) {fr' : Nat → Prop} (hf : ∀ i, fr' i → fr i) : Sim N m h fr' w :=
  ⟨s.base, s.blk, fun i hi => s.fresh i (hf i hi), s.apart⟩

theorem rangeAt_eq {w w' : World} {b o : Nat} {xs : List Value} (r : w.rangeAt b o xs) (e : ∀ q, w'.cell? ⟨b, q, none⟩ = w.cell? ⟨b, q, none⟩) : w'.rangeAt b o xs := fun j v hv => by rw [e]; exact r j v hv

theorem Sim.drew (s : Sim N m h fr w) : Sim N m h fr w.drew :=
  ⟨s.base, fun i b hb => by
    obtain ⟨p, e, k⟩ := s.blk i b hb
    obtain ⟨xs, r, q⟩ := k.cells
    exact ⟨p, e, k.es, k.fits, k.lt, ⟨xs, r, by simpa using q⟩, k.one, fun ho => ⟨(k.own ho).1, by simpa using (k.own ho).2⟩, k.old⟩, s.fresh, s.apart⟩

/-- A new block. -/
theorem Sim.alloc (s : Sim N m h fr w) {i : Nat} (hi : fr i) (cs : List AV) (xs ys : List Value) (r : RelL m cs xs) (o : allOne cs = true) (e : TypeId) (es cap : Nat)
    (hc : cs.length ≤ cap) (hcap : cap ≤ (xs ++ ys).length) :
    Sim N (m.put i ⟨w.heap.size, 0, cap, es⟩) (h.put i (some ⟨cs, es, true⟩)) (fun j => fr j ∧ j ≠ i) (w.alloc (.cells (xs ++ ys).toArray e)) ∧ m.le (m.put i ⟨w.heap.size, 0, cap, es⟩) := by
  obtain ⟨h0, m0⟩ := s.fresh i hi
  have le : m.le (m.put i ⟨w.heap.size, 0, cap, es⟩) := fun j p hj => by
    unfold PMap.put; by_cases c : j = i
    · subst c; rw [m0] at hj; cases hj
    · rw [if_neg c]; exact hj
  refine ⟨⟨by have := s.base; simp; omega, ?_, ?_, ?_⟩, le⟩
  · intro j b hb
    unfold AHeap.put at hb
    by_cases c : j = i
    · subst c
      rw [if_pos rfl] at hb
      obtain rfl := Option.some.inj hb
      refine ⟨⟨w.heap.size, 0, cap, es⟩, by simp [PMap.put], rfl, hc, by simp, ⟨xs, RelL.le le r, ?_⟩, o, fun _ => ⟨s.base, ?_⟩, by simp⟩
      · intro j v hv
        show World.cell? _ ⟨w.heap.size, 0 + j, none⟩ = some v
        rw [World.cell?_alloc_new]
        simp only [Nat.zero_add]
        rw [List.getElem?_toArray, List.getElem?_append_left (List.getElem?_eq_some_iff.1 hv).1]; exact hv
      · intro j hj
        show (World.cell? _ ⟨w.heap.size, 0 + j, none⟩).isSome = true ∧ _
        rw [World.cell?_alloc_new]
        simp only [Nat.zero_add, List.getElem?_toArray]
        have hlt : j < (xs ++ ys).length := by show j < _; exact Nat.lt_of_lt_of_le hj hcap
        exact ⟨by rw [List.getElem?_eq_getElem hlt]; rfl, World.frozen?_alloc_at _ _ _ _ rfl⟩
    · rw [if_neg c] at hb
      obtain ⟨p, hp, k⟩ := s.blk j b hb
      obtain ⟨us, ru, qu⟩ := k.cells
      refine ⟨p, le j p hp, k.es, k.fits, by have := k.lt; simp; omega, ⟨us, RelL.le le ru, World.rangeAt_alloc qu _⟩, k.one, fun ho => ⟨(k.own ho).1, World.there_alloc (k.own ho).2 _⟩, k.old⟩
  · rintro j ⟨hj, c⟩
    unfold AHeap.put PMap.put
    rw [if_neg c, if_neg c]; exact s.fresh j hj
  · intro a b ba bb pa pb hab hha hhb hown hma hmb
    unfold AHeap.put at hha hhb
    unfold PMap.put at hma hmb
    by_cases ca : a = i
    · rw [if_pos ca] at hma
      obtain rfl := Option.some.inj hma
      have cb : b ≠ i := fun c => hab (ca.trans c.symm)
      rw [if_neg cb] at hhb hmb
      obtain ⟨q, hq, k⟩ := s.blk b bb hhb
      rw [hmb] at hq; obtain rfl := Option.some.inj hq
      have := k.lt
      show w.heap.size ≠ pb.blk
      omega
    · rw [if_neg ca] at hha hma
      by_cases cb : b = i
      · rw [if_pos cb] at hmb
        obtain rfl := Option.some.inj hmb
        obtain ⟨q, hq, k⟩ := s.blk a ba hha
        rw [hma] at hq; obtain rfl := Option.some.inj hq
        have := k.lt
        show pa.blk ≠ w.heap.size
        omega
      · rw [if_neg cb] at hhb hmb
        exact s.apart a b ba bb pa pb hab hha hhb hown hma hmb

def splice (cs : List AV) (o : Nat) (vs : List AV) : List AV := cs.take o ++ vs ++ cs.drop (o + vs.length)

theorem splice_length {cs : List AV} {o : Nat} {vs : List AV} (h : o + vs.length ≤ cs.length) : (splice cs o vs).length = cs.length := by
  simp [splice]; omega

theorem relL_splice {cs vs : List AV} {xs ys : List Value} (r : RelL m cs xs) (q : RelL m vs ys) (o : Nat) : RelL m (splice cs o vs) (xs.take o ++ ys ++ xs.drop (o + ys.length)) := by
  unfold splice
  rw [q.length]
  exact ((r.take o).append q).append (r.drop _)

theorem setCells_splice {w : World} {b base : Nat} {xs ys : List Value} (r : w.rangeAt b base xs) (o : Nat) (ho : o + ys.length ≤ xs.length) :
    (w.setCells b (base + o) ys).rangeAt b base (xs.take o ++ ys ++ xs.drop (o + ys.length)) := by
  have hsome : ∀ j, j < ys.length → (w.cell? ⟨b, base + o + j, none⟩).isSome = true := fun j hj => by
    have := r.isSome (o + j) (by omega)
    rwa [← Nat.add_assoc] at this
  intro j v hv
  by_cases c1 : j < o
  · rw [World.cell?_setCells_out b ys (base + o) w _ (fun _ _ => .inl (by show base + j < base + o; omega))]
    refine r j v ?_
    rw [List.append_assoc, List.getElem?_append_left (by simp; omega), List.getElem?_take] at hv
    rwa [if_pos c1] at hv
  · by_cases c2 : j < o + ys.length
    · have e : base + j = base + o + (j - o) := by omega
      have hin := World.cell?_setCells_in b ys (base + o) w hsome (j - o) (by omega)
      rw [← e] at hin
      rw [hin, ← hv, List.append_assoc, List.getElem?_append_right (by simp; omega)]
      rw [List.getElem?_append_left (by simp; omega)]
      simp only [List.length_take]
      rw [show j - min o xs.length = j - o by omega, List.getElem?_eq_getElem (by omega)]
    · rw [World.cell?_setCells_out b ys (base + o) w _ (fun _ _ => .inr (by show base + o + ys.length ≤ base + j; omega))]
      refine r j v ?_
      rw [List.getElem?_append_right (by simp; omega), List.getElem?_drop] at hv
      simp only [List.length_append, List.length_take] at hv
      rwa [show o + ys.length + (j - (min o xs.length + ys.length)) = j by omega] at hv

theorem setCells_heap_size (b : Nat) : ∀ (vs : List Value) (o : Nat) (w : World), (w.setCells b o vs).heap.size = w.heap.size
  | [], _, _ => rfl
  | v :: r, o, w => by rw [World.setCells, setCells_heap_size b r]; simp [World.setCell]

/-- What else there is, behind a store into block 'p.blk'. -/
theorem BlkOk.setCells {b : ABlk} {q : Place} (k : BlkOk N m w b q) (g o : Nat) (ys : List Value) (hne : q.blk ≠ g) : BlkOk N m (w.setCells g o ys) b q := by
  obtain ⟨us, ru, qu⟩ := k.cells
  exact ⟨k.es, k.fits, by rw [setCells_heap_size]; exact k.lt, ⟨us, ru, World.rangeAt_setCells_apart qu _ _ _ (.inl hne)⟩, k.one,
    fun ho => ⟨(k.own ho).1, World.there_setCells (k.own ho).2 _ _ _⟩, k.old⟩

/-- A store into an own block. -/
theorem Sim.store (s : Sim N m h fr w) {i : Nat} {b : ABlk} {p : Place} (hb : h i = some b) (hp : m i = some p) (own : b.own = true) (o : Nat) (vs : List AV) (ys : List Value)
    (r : RelL m vs ys) (one : allOne vs = true) (hfit : o + vs.length ≤ b.cells.length) :
    Sim N m (h.put i (some ⟨splice b.cells o vs, b.es, true⟩)) fr (w.setCells p.blk (p.base + o) ys) := by
  obtain ⟨p', hp', k⟩ := s.blk i b hb
  rw [hp] at hp'; obtain rfl := Option.some.inj hp'
  refine ⟨by rw [setCells_heap_size]; exact s.base, ?_, ?_, ?_⟩
  · intro j bj hj
    unfold AHeap.put at hj
    by_cases c : j = i
    · subst c
      rw [if_pos rfl] at hj
      obtain rfl := Option.some.inj hj
      obtain ⟨xs, rx, qx⟩ := k.cells
      refine ⟨p, hp, k.es, by show (splice _ _ _).length ≤ _; rw [splice_length hfit]; exact k.fits, by rw [setCells_heap_size]; exact k.lt,
        ⟨_, relL_splice rx r o, setCells_splice qx o (by rw [r.length, rx.length]; exact hfit)⟩, ?_, fun _ => ⟨(k.own own).1, World.there_setCells (k.own own).2 _ _ _⟩, by simp⟩
      refine allOne_of fun v hv => ?_
      simp only [splice, List.mem_append] at hv
      rcases hv with (hv | hv) | hv
      · exact allOne_mem k.one (List.mem_of_mem_take hv)
      · exact allOne_mem one hv
      · exact allOne_mem k.one (List.mem_of_mem_drop hv)
    · rw [if_neg c] at hj
      obtain ⟨q, hq, kq⟩ := s.blk j bj hj
      exact ⟨q, hq, kq.setCells _ _ _ (fun e => s.apart i j b bj p q (fun e => c e.symm) hb hj own hp hq e.symm)⟩
  · intro j hj
    have := s.fresh j hj
    unfold AHeap.put
    by_cases c : j = i
    · subst c; rw [hb] at this; cases this.1
    · rw [if_neg c]; exact this
  · intro a c ba bc pa pc hac hha hhc hown hma hmc
    unfold AHeap.put at hha hhc
    by_cases ca : a = i
    · subst ca
      rw [if_neg (fun e => hac e.symm)] at hhc
      exact s.apart a c b bc pa pc hac hb hhc own hma hmc
    · rw [if_neg ca] at hha
      by_cases cc : c = i
      · subst cc
        exact s.apart a c ba b pa pc hac hha hb hown hma hmc
      · rw [if_neg cc] at hhc
        exact s.apart a c ba bc pa pc hac hha hhc hown hma hmc

/-- An own block goes. -/
theorem Sim.kill (s : Sim N m h fr w) (i : Nat) : Sim N m (h.put i none) fr w := by
  refine ⟨s.base, ?_, ?_, ?_⟩
  · intro j bj hj
    unfold AHeap.put at hj
    by_cases c : j = i
    · rw [if_pos c] at hj; cases hj
    · rw [if_neg c] at hj; exact s.blk j bj hj
  · intro j hj
    have := s.fresh j hj
    unfold AHeap.put
    by_cases c : j = i
    · rw [if_pos c]; exact ⟨rfl, this.2⟩
    · rw [if_neg c]; exact this
  · intro a c ba bc pa pc hac hha hhc hown hma hmc
    unfold AHeap.put at hha hhc
    by_cases ca : a = i
    · rw [if_pos ca] at hha; cases hha
    · rw [if_neg ca] at hha
      by_cases cc : c = i
      · rw [if_pos cc] at hhc; cases hhc
      · rw [if_neg cc] at hhc
        exact s.apart a c ba bc pa pc hac hha hhc hown hma hmc

/-- An append in place: the block's part from offset o on, and behind it what is stored there, is a block of its own from now on. -/
theorem Sim.onto (s : Sim N m h fr w) {i k : Nat} {b : ABlk} {p : Place} (hb : h i = some b) (hp : m i = some p) (own : b.own = true) (hk : fr k) (o l c : Nat) (vs : List AV) (ys : List Value)
    (r : RelL m vs ys) (one : allOne vs = true) (hl : o + l ≤ b.cells.length) (hc : l + vs.length ≤ c) (hcap : o + c ≤ p.cap) :
    Sim N (m.put k ⟨p.blk, p.base + o, c, b.es⟩) ((h.put i none).put k (some ⟨(b.cells.drop o).take l ++ vs, b.es, true⟩)) (fun j => fr j ∧ j ≠ k) (w.setCells p.blk (p.base + o + l) ys) ∧
      m.le (m.put k ⟨p.blk, p.base + o, c, b.es⟩) := by
  obtain ⟨p', hp', ok⟩ := s.blk i b hb
  rw [hp] at hp'; obtain rfl := Option.some.inj hp'
  obtain ⟨h0, m0⟩ := s.fresh k hk
  have hik : i ≠ k := fun e => by subst e; rw [hb] at h0; cases h0
  have le : m.le (m.put k ⟨p.blk, p.base + o, c, b.es⟩) := fun j q hj => by
    unfold PMap.put; by_cases e : j = k
    · subst e; rw [m0] at hj; cases hj
    · rw [if_neg e]; exact hj
  have hys : ys.length = vs.length := r.length
  refine ⟨⟨by rw [setCells_heap_size]; exact s.base, ?_, ?_, ?_⟩, le⟩
  · intro j bj hj
    unfold AHeap.put at hj
    by_cases e : j = k
    · subst e
      rw [if_pos rfl] at hj
      obtain rfl := Option.some.inj hj
      obtain ⟨xs, rx, qx⟩ := ok.cells
      obtain ⟨hN, ht⟩ := ok.own own
      have hxs : xs.length = b.cells.length := rx.length
      refine ⟨⟨p.blk, p.base + o, c, b.es⟩, by simp [PMap.put], rfl, by simp; omega, by rw [setCells_heap_size]; exact ok.lt, ⟨(xs.drop o).take l ++ ys, (((RelL.le le rx).drop o).take l).append (RelL.le le r), ?_⟩, ?_, fun _ => ⟨hN, ?_⟩, by simp⟩
      · intro j v hv
        show World.cell? _ ⟨p.blk, p.base + o + j, none⟩ = some v
        by_cases c1 : j < l
        · rw [World.cell?_setCells_out _ _ _ _ _ (fun _ _ => .inl (by show p.base + o + j < p.base + o + l; omega))]
          rw [List.getElem?_append_left (by simp; omega), List.getElem?_take, if_pos c1, List.getElem?_drop] at hv
          have := qx (o + j) v hv
          rwa [← Nat.add_assoc] at this
        · have hlen : ((xs.drop o).take l).length = l := by simp; omega
          rw [List.getElem?_append_right (by omega), hlen] at hv
          have hj : j - l < ys.length := (List.getElem?_eq_some_iff.1 hv).1
          have hin := World.cell?_setCells_in p.blk ys (p.base + o + l) w (fun t ht' => by
            have := (ht (o + l + t) (by omega)).1
            rwa [show p.base + (o + l + t) = p.base + o + l + t by omega] at this) (j - l) hj
          rw [show p.base + o + l + (j - l) = p.base + o + j by omega] at hin
          rw [hin, ← hv, List.getElem?_eq_getElem hj]
      · refine allOne_of fun v hv => ?_
        simp only [List.mem_append] at hv
        rcases hv with hv | hv
        · exact allOne_mem ok.one (List.mem_of_mem_drop (List.mem_of_mem_take hv))
        · exact allOne_mem one hv
      · refine World.there_setCells (fun t htc => ?_) _ _ _
        have := ht (o + t) (by have : t < c := htc; omega)
        show (w.cell? ⟨p.blk, p.base + o + t, none⟩).isSome = true ∧ w.frozen? ⟨p.blk, p.base + o + t, none⟩ = false
        rwa [← Nat.add_assoc] at this
    · rw [if_neg e] at hj
      by_cases e' : j = i
      · rw [if_pos e'] at hj; cases hj
      · rw [if_neg e'] at hj
        obtain ⟨q, hq, kq⟩ := s.blk j bj hj
        have k2 := kq.setCells p.blk (p.base + o + l) ys (fun e => s.apart i j b bj p q (fun e => e' e.symm) hb hj own hp hq e.symm)
        obtain ⟨us, ru, qu⟩ := k2.cells
        exact ⟨q, le j q hq, k2.es, k2.fits, k2.lt, ⟨us, RelL.le le ru, qu⟩, k2.one, k2.own, k2.old⟩
  · rintro j ⟨hj, e⟩
    have := s.fresh j hj
    unfold AHeap.put PMap.put
    rw [if_neg e, if_neg e]
    by_cases e' : j = i
    · rw [if_pos e']; exact ⟨rfl, this.2⟩
    · rw [if_neg e']; exact this
  · intro x y bx by' px py hxy hhx hhy hown hmx hmy
    unfold AHeap.put at hhx hhy
    unfold PMap.put at hmx hmy
    by_cases ex : x = k
    · have ey : y ≠ k := fun e => hxy (ex.trans e.symm)
      rw [if_pos ex] at hmx
      rw [if_neg ey] at hhy hmy
      obtain rfl := Option.some.inj hmx
      by_cases ey' : y = i
      · rw [if_pos ey'] at hhy; cases hhy
      · rw [if_neg ey'] at hhy
        exact s.apart i y b by' p py (fun e => ey' e.symm) hb hhy own hp hmy
    · rw [if_neg ex] at hhx hmx
      by_cases ex' : x = i
      · rw [if_pos ex'] at hhx; cases hhx
      · rw [if_neg ex'] at hhx
        by_cases ey : y = k
        · rw [if_pos ey] at hmy
          obtain rfl := Option.some.inj hmy
          exact fun e => s.apart i x b bx p px (fun e => ex' e.symm) hb hhx own hp hmx e.symm
        · rw [if_neg ey] at hhy hmy
          by_cases ey' : y = i
          · rw [if_pos ey'] at hhy; cases hhy
          · rw [if_neg ey'] at hhy
            exact s.apart x y bx by' px py hxy hhx hhy hown hmx hmy

end Go.Proofs.Ytdfopcgfhjijgaa.T
