/- More for specifications over the machine: what one pushes, lists of numbers. Nothing of one program. -/
import Derived.Test.YtahilinkfnchaaaDoorTI
set_option linter.unusedVariables false
set_option linter.unusedSimpArgs false
namespace Go.Proofs.YtahilinkfnchaaaDoor.T
open Go Go.RowKit

variable {R : Type} {h : AHeap}

theorem wA {x : Int} (h0 : -4611686018427387904 ≤ x) (h1 : x ≤ 4611686018427387904) : wrapA .i64 x = x := by
  rw [wrapA_def]; show wrap64 x = x
  unfold wrap64; omega

theorem wB {x : Int} (h0 : -9223372036854775808 ≤ x) (h1 : x ≤ 9223372036854775807) : wrapA .i64 x = x := by
  rw [wrapA_def]; show wrap64 x = x
  unfold wrap64; omega

theorem wsucc {i : Nat} (h : i ≤ 4000000000000000000) : wrapA .i64 ((i : Int) + 1) = ((i + 1 : Nat) : Int) := by rw [wA (by omega) (by omega)]; omega

/-- Steps at a block that one knows. -/
theorem ld_at {h : AHeap} {i o es : Nat} {own : Bool} {cs : List AV} {v : AV} (hb : h i = some ⟨cs, es, own⟩) (hv : cs[o]? = some v) (K : AV → Option R) (hm : Nat.beq es MB = false := by rfl) : (ldA h i o).bind K = K v := by rw [ldA_at hb hv (mapB_of rfl hm), Option.bind_some]
theorem st_at {h : AHeap} {i o n es : Nat} {cs : List AV} {v : AV} (hb : h i = some ⟨cs, es, true⟩) (h1 : v.cells.length = n) (h2 : o + v.cells.length ≤ cs.length) (h3 : allOne v.cells = true) (K : ABlk → Option R) (hm : Nat.beq es MB = false := by rfl) : (stA h i o v n).bind K = K ⟨splice cs o v.cells, es, true⟩ := by
  have hmb : mapB ⟨cs, es, true⟩ = false := mapB_of rfl hm
  rw [stA_at hb (by simp [storeOk, h1, h3, hmb]; omega), Option.bind_some]
theorem ldr_at {h : AHeap} {i o n es : Nat} {own : Bool} {cs : List AV} (hb : h i = some ⟨cs, es, own⟩) (h2 : o + n ≤ cs.length) (K : List AV → Option R) (hm : Nat.beq es MB = false := by rfl) : (ldR h i o n).bind K = K ((cs.drop o).take n) := by
  rw [ldR_at hb h2 (mapB_of rfl hm), Option.bind_some]
theorem ldr_all {h : AHeap} {i n es : Nat} {own : Bool} {cs : List AV} (hb : h i = some ⟨cs, es, own⟩) (h2 : cs.length = n) (K : List AV → Option R) (hm : Nat.beq es MB = false := by rfl) : (ldR h i 0 n).bind K = K cs := by
  rw [ldr_at hb (by omega) _ hm, List.drop_zero, ← h2, List.take_length]
theorem st_all {h : AHeap} {i n es : Nat} {cs vs : List AV} (hb : h i = some ⟨cs, es, true⟩) (h1 : vs.length = n) (h2 : cs.length = n) (h3 : allOne vs = true) (K : ABlk → Option R) (hm : Nat.beq es MB = false := by rfl) : (stA h i 0 (.agg vs) n).bind K = K ⟨vs, es, true⟩ := by
  rw [st_at (v := .agg vs) hb h1 (by show 0 + vs.length ≤ _; omega) h3 _ hm]
  show K ⟨splice cs 0 vs, es, true⟩ = _
  rw [show splice cs 0 vs = vs from by simp [splice]; omega]
theorem st_one {h : AHeap} {i o es : Nat} {cs : List AV} {v : AV} (hb : h i = some ⟨cs, es, true⟩) (hv : v.one = true) (ho : o < cs.length) (K : ABlk → Option R) (hm : Nat.beq es MB = false := by rfl) : (stA h i o v 1).bind K = K ⟨cs.set o v, es, true⟩ := by
  have hc : v.cells = [v] := by cases v <;> simp [AV.one] at hv <;> rfl
  rw [st_at hb (by rw [hc]; rfl) (by rw [hc]; simp; omega) (by rw [hc]; simp [allOne, hv]) _ hm, hc]
  congr 2
  simp only [splice, List.length_cons, List.length_nil, Nat.zero_add]
  rw [List.set_eq_take_append_cons_drop, if_pos ho]
  simp
theorem st_to {h : AHeap} {i o es : Nat} {cs cs' : List AV} {v : AV} (hb : h i = some ⟨cs, es, true⟩) (hv : v.one = true) (ho : o < cs.length) (he : cs.set o v = cs') (K : ABlk → Option R) (hm : Nat.beq es MB = false := by rfl) : (stA h i o v 1).bind K = K ⟨cs', es, true⟩ := by
  rw [st_one hb hv ho _ hm, he]
theorem put_put (h : AHeap) (i : Nat) (a b : Option ABlk) : (h.put i a).put i b = h.put i b := by
  funext j; unfold AHeap.put; split <;> rfl
theorem some_bind {α : Type} (a : α) (K : α → Option R) : (some a).bind K = K a := by simp
theorem if_in {c : Prop} [Decidable c] (h : c) {a b : Option R} : (if c then a else b) = a := if_pos h

theorem src_lit {h : AHeap} {id es : Nat} {ws : List AV} (hw : ws.length = es) : srcS (h.put id (some ⟨ws, es, true⟩)) (some (id, 0)) 1 es = some (1, ws, [id]) := by
  subst hw; simp [srcS]

theorem src_lit1 {h : AHeap} {id : Nat} {v : AV} : srcS (h.put id (some ⟨[v], 1, true⟩)) (some (id, 0)) 1 1 = some (1, [v], [id]) := src_lit rfl

theorem OwnSl.le {nx0 nx nx' : Nat} {a : Option (Nat × Nat)} {n es : Nat} {vs : List AV} (s : OwnSl h nx0 nx a n es vs) (l : nx ≤ nx') : OwnSl h nx0 nx' a n es vs :=
  ⟨s.1, s.2.imp id fun ⟨i, e1, e2, e3, e4⟩ => ⟨i, e1, e2, by omega, e4⟩⟩
theorem OwnSl.ext {h h' : AHeap} {nx0 nx nx' : Nat} {a : Option (Nat × Nat)} {n es : Nat} {vs : List AV} (s : OwnSl h nx0 nx a n es vs) (x : Ext h nx h' nx') : OwnSl h' nx0 nx' a n es vs :=
  ⟨s.1, s.2.imp id fun ⟨i, e1, e2, e3, e4⟩ => ⟨i, e1, e2, by have := x.1; omega, (x.2 i e3).trans e4⟩⟩
theorem OwnSl.from {h : AHeap} {nx0 nx1 nx : Nat} {a : Option (Nat × Nat)} {n es : Nat} {vs : List AV} (s : OwnSl h nx1 nx a n es vs) (l : nx0 ≤ nx1) : OwnSl h nx0 nx a n es vs :=
  ⟨s.1, s.2.imp id fun ⟨i, e1, e2, e3, e4⟩ => ⟨i, e1, by omega, e3, e4⟩⟩
theorem OwnSl.put {nx0 nx nx' id : Nat} {a : Option (Nat × Nat)} {n es : Nat} {vs : List AV} {b : Option ABlk} (s : OwnSl h nx0 nx a n es vs) (hid : nx ≤ id) (l : nx ≤ nx') : OwnSl (h.put id b) nx0 nx' a n es vs :=
  s.ext ⟨l, fun i hi => put_ne (by omega)⟩
theorem Ext.then {h h1 h2 : AHeap} {n n1 n2 : Nat} (a : Ext h n h1 n1) (b : Ext h1 n h2 n2) : Ext h n h2 n2 := ⟨b.1, fun i hi => (b.2 i hi).trans (a.2 i hi)⟩
theorem Ext.from {h h' : AHeap} {n0 n n' : Nat} (e : Ext h n h' n') (l : n0 ≤ n) : Ext h n0 h' n' := ⟨by have := e.1; omega, fun i hi => e.2 i (by omega)⟩

theorem OwnSl.push {nx0 nx : Nat} {a : Option (Nat × Nat)} {n es : Nat} {vs : List AV} (s : OwnSl h nx0 nx a n es vs) {c : Option Nat} {bytes id id2 : Nat} {ws : List AV} (hw : ws.length = es) (hg : growOk (n + 1) bytes = true) (h0 : nx0 ≤ nx) (hid : nx ≤ id) (hid2 : id < id2) :
    ∃ e, appD (h.put id (some ⟨ws, es, true⟩)) a n c es bytes id2 (1, ws, [id]) = some e ∧ e.n = n + 1 ∧ OwnSl ((h.put id (some ⟨ws, es, true⟩)).puts e.sets) nx0 (id2 + 1) e.a (n + 1) es (vs ++ ws) ∧ Ext h nx0 ((h.put id (some ⟨ws, es, true⟩)).puts e.sets) (id2 + 1) := by
  have s' : OwnSl (h.put id (some ⟨ws, es, true⟩)) nx0 (id + 1) a n es vs := s.put hid (by omega)
  obtain ⟨e, f1, f2, f3, f4⟩ := s'.append (c := c) (bytes := bytes) (id := id2) (k := 1) (ws := ws) (rd := [id]) (by omega) (by simpa using hw) hg (by omega) (by omega)
  exact ⟨e, f1, f2, f3, ⟨by have := f4.1; omega, fun i hi => (f4.2 i hi).trans (put_ne (by omega))⟩⟩

/-- Lists of whole numbers. -/
abbrev ints (k : IntKind) (l : List Int) : List AV := l.map (AV.int k)
theorem ints_get {k : IntKind} {l : List Int} {i : Nat} (hi : i < l.length) : (ints k l)[i * 1]? = some (.int k l[i]) := by
  simp [ints, List.getElem?_map, List.getElem?_eq_getElem hi]
theorem bools_get {l : List Bool} {i : Nat} (hi : i < l.length) : (l.map AV.bool)[i * 1]? = some (.bool l[i]) := by
  simp [List.getElem?_map, List.getElem?_eq_getElem hi]

/-- Reading number i of a slice of numbers. -/
theorem Sl.readI {nx : Nat} {a : Option (Nat × Nat)} {k : IntKind} {l : List Int} (s : Sl h nx a l.length 1 (ints k l)) {i : Nat} (hi : i < l.length) (K : AV → Option R) :
    (a.bind fun p => if 0 ≤ (i : Int) ∧ (i : Int) < ((l.length : Nat) : Int) then (ldA h p.1 (p.2 + Int.toNat (i : Int) * 1)).bind K else none) = K (.int k l[i]) :=
  s.read0 (by omega) (by omega) (by omega) (by rw [Int.toNat_natCast]; exact ints_get hi) K

/-- The source of an append: a slice of numbers. -/
theorem Sl.src {nx : Nat} {a : Option (Nat × Nat)} {n es : Nat} {vs : List AV} (s : Sl h nx a n es vs) : ∃ rd, srcS h a n es = some (n, vs, rd) ∨ (n = 0 ∧ vs = [] ∧ srcS h a n es = some (0, [], [])) := by
  by_cases hn : n = 0
  · subst hn
    have : vs = [] := by have := s.1; simp at this; exact this
    refine ⟨[], .inr ⟨rfl, this, ?_⟩⟩
    cases a <;> simp [srcS]
  · obtain ⟨p, b, rfl, _, e3, e4, e5, e6⟩ := s.2 0 (by omega)
    have hd : (b.cells.drop p.2).take (n * es) = vs := by
      apply List.ext_getElem?
      intro q
      rw [List.getElem?_take]
      by_cases hq : q < n * es
      · rw [if_pos hq, List.getElem?_drop]; exact e6 q hq
      · rw [if_neg hq, List.getElem?_eq_none (by rw [s.1]; omega)]
    exact ⟨[p.1], .inl (by simp only [srcS]; rw [if_neg hn, e3]; simp [e4, e5, hd])⟩
theorem Sl.src' {nx : Nat} {a : Option (Nat × Nat)} {n es : Nat} {vs : List AV} (s : Sl h nx a n es vs) : ∃ rd, srcS h a n es = some (n, vs, rd) := by
  obtain ⟨rd, e | ⟨rfl, rfl, e⟩⟩ := s.src
  · exact ⟨rd, e⟩
  · exact ⟨[], e⟩

theorem bound_some {k : IntKind} {i d y : Nat} (h : i ≤ y) : boundA (some (.int k (i : Int))) d y = some i := by
  simp [boundA, h]
theorem bound_none {d y : Nat} : boundA none d y = some d := rfl

theorem topOf_le (a : Option (Nat × Nat)) (n : Nat) (c : Option Nat) : n ≤ topOf a n c := by
  cases a <;> cases c <;> first | exact Nat.le_refl _ | exact Nat.le_max_left _ _
theorem bound_top {r : Option AV} {n hi top : Nat} (h : boundA r n n = some hi) (l : n ≤ top) : boundA r n top = some hi := by
  unfold boundA at h ⊢
  split at h
  · exact h
  · split at h
    · rename_i i q
      rw [if_pos ⟨q.1, by omega⟩]; exact h
    · cases h
  · cases h
/-- A cut of a slice. -/
theorem Sl.cut {nx : Nat} {a : Option (Nat × Nat)} {n es : Nat} {vs : List AV} (s : Sl h nx a n es vs) (c : Option Nat) {lo hi : Nat} (h1 : lo ≤ hi) (h2 : hi ≤ n) {l r : Option AV} (hl : boundA l 0 hi = some lo) (hr : boundA r n n = some hi) :
    cutA h a n c es l r none = some (shiftAddr a (lo * es), hi - lo, some (capCut n c lo)) ∧ Sl h nx (shiftAddr a (lo * es)) (hi - lo) es ((vs.drop (lo * es)).take ((hi - lo) * es)) ∧ rdOf (shiftAddr a (lo * es)) = rdOf a := by
  have hlen : ((vs.drop (lo * es)).take ((hi - lo) * es)).length = (hi - lo) * es := by
    have e1 : (hi - lo) * es + lo * es = hi * es := by rw [← Nat.add_mul]; congr 1; omega
    have e2 : hi * es ≤ n * es := Nat.mul_le_mul_right _ h2
    simp only [List.length_take, List.length_drop, s.1]; omega
  refine ⟨?_, ⟨hlen, ?_⟩, ?_⟩
  · unfold cutA boundsD
    simp only [bound_top hr (topOf_le a n c), hl, Option.bind_some]
    rw [if_pos]
    by_cases h0 : lo = 0
    · subst h0; rfl
    · by_cases hn : n = 0
      · omega
      · obtain ⟨p, b, rfl, _, e3, e4, _⟩ := s.2 0 (by omega)
        simp [esIs, e3, e4]
  · intro j hj
    obtain ⟨p, b, rfl, e2, e3, e4, e5, e6⟩ := s.2 (lo + j) (by omega)
    have e7 : (hi - lo) * es + lo * es = hi * es := by rw [← Nat.add_mul]; congr 1; omega
    have e8 : hi * es ≤ n * es := Nat.mul_le_mul_right _ h2
    refine ⟨(p.1, p.2 + lo * es), b, rfl, e2, e3, e4, by simp only; omega, fun q hq => ?_⟩
    have := e6 (lo * es + q) (by omega)
    rw [List.getElem?_take, if_pos hq, List.getElem?_drop, ← this]
    simp only
    congr 1; omega
  · cases a <;> rfl

/-- A copy: what an append to nothing gives. -/
theorem copyOf {nx n es bytes id : Nat} {vs : List AV} {rd : List Nat} (hv : vs.length = n * es) (hg : growOk n bytes = true) (hid : nx ≤ id) :
    ∃ e, appD h none 0 none es bytes id (n, vs, rd) = some e ∧ e.n = n ∧ OwnSl (h.puts e.sets) nx (id + 1) e.a n es vs ∧ Ext h nx (h.puts e.sets) (id + 1) := by
  by_cases hn : n = 0
  · subst hn
    have : vs = [] := by simp at hv; exact hv
    subst this
    exact ⟨⟨none, 0, none, [], rd⟩, by simp [appD], rfl, ⟨by simp, .inl ⟨rfl, rfl⟩⟩, ⟨by omega, fun _ _ => rfl⟩⟩
  · obtain ⟨e, f1, f2, f3, f4⟩ := (OwnSl.nil h nx nx es).append (c := none) (bytes := bytes) (id := id) (k := n) (ws := vs) (rd := rd) hn hv (by rw [Nat.zero_add]; exact hg) (Nat.le_refl _) hid
    rw [Nat.zero_add] at f2
    rw [Nat.zero_add, List.nil_append] at f3
    exact ⟨e, f1, f2, f3, f4⟩

theorem ifKept_pos {l : List (AHeap × AHeap × List Nat)} {K : Option R} (h : AllKept l) : ifKept l K = K := by
  unfold ifKept; split
  · rfl
  · rw [if_pos h]
theorem ifApart_pos {l : List (List Nat × List Nat)} {K : Option R} (h : AllApart l) : ifApart l K = K := by
  unfold ifApart; split
  · rfl
  · rw [if_pos h]
theorem ifRob_pos {call : CalF} {l : List Rob} {K : Option R} (h : AllRob call l) : ifRob call l K = K := by
  unfold ifRob; split
  · rfl
  · rw [if_pos h]

theorem OwnSl.append_ids {h : AHeap} {nx0 nx : Nat} {a : Option (Nat × Nat)} {n es : Nat} {vs : List AV} (s : OwnSl h nx0 nx a n es vs) {c : Option Nat} {bytes id : Nat} {q : Nat × List AV × List Nat} (h0 : nx0 ≤ id) {e : AE} (he : appD h a n c es bytes id q = some e) : ∀ x ∈ idsOf e.sets, nx0 ≤ x := by
  unfold appD at he
  split at he
  · obtain rfl := Option.some.inj he; intro x hx; cases hx
  · split at he
    · rcases s.2 with ⟨rfl, rfl⟩ | ⟨i, rfl, hi0, hi1, e0⟩
      · simp only at he
        obtain rfl := Option.some.inj he
        intro x hx; simp [idsOf] at hx; omega
      · simp only [e0, Option.bind_some] at he
        split at he
        · split at he
          · obtain rfl := Option.some.inj he
            intro x hx; simp [idsOf] at hx; omega
          · split at he
            · split at he
              · obtain rfl := Option.some.inj he
                intro x hx; simp [idsOf] at hx; omega
              · obtain rfl := Option.some.inj he
                intro x hx; simp [idsOf] at hx; omega
            · cases he
        · cases he
    · cases he

/-- An append of a slice's cells to a slice of one's own. -/
theorem OwnSl.appendS {h : AHeap} {nx0 nx : Nat} {a : Option (Nat × Nat)} {n es : Nat} {vs : List AV} (s : OwnSl h nx0 nx a n es vs) (c : Option Nat) {bytes id k : Nat} {ws : List AV} {rd : List Nat} (hw : ws.length = k * es) (hg : growOk (n + k) bytes = true) (h0 : nx0 ≤ nx) (hid : nx ≤ id) :
    ∃ e, appD h a n c es bytes id (k, ws, rd) = some e ∧ e.n = n + k ∧ OwnSl (h.puts e.sets) nx0 (id + 1) e.a (n + k) es (vs ++ ws) ∧ Ext h nx0 (h.puts e.sets) (id + 1) ∧ ∀ x ∈ idsOf e.sets, nx0 ≤ x := by
  by_cases hk : k = 0
  · subst hk
    have : ws = [] := by simpa using hw
    subst this
    refine ⟨⟨a, n, c, [], rd⟩, by simp [appD], rfl, ?_, ⟨by omega, fun _ _ => rfl⟩, fun x hx => by cases hx⟩
    rw [List.append_nil, Nat.add_zero]
    exact s.le (by omega)
  · obtain ⟨e, f1, f2, f3, f4⟩ := s.append (c := c) (bytes := bytes) (id := id) (k := k) (ws := ws) (rd := rd) hk hw hg h0 hid
    exact ⟨e, f1, f2, f3, f4, s.append_ids (by omega) f1⟩


end Go.Proofs.YtahilinkfnchaaaDoor.T
