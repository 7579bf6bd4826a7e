/- Trees: rows copied; lists of steps; bytesOf. -/
import Derived.Test.YtogmdfbamgjjfaaH16
set_option linter.unusedVariables false
set_option linter.unusedSimpArgs false
namespace Go.Proofs.Ytogmdfbamgjjfaa.T
open Go Go.RowKit Go.Proofs

theorem OwnRows.app2 {α : Type} {Q : α → List AV → Prop} {h : AHeap} {nx : Nat} {a : Option (Nat × Nat)} {es : Nat} {l l2 : List α} (w : OwnRows Q h nx a es l) (c : Bool) {bytes id : Nat} {rows2 : List (List AV)} (q2 : All2 Q l2 rows2) (len2 : ∀ r ∈ rows2, r.length = es) (rd : List Nat) (hg : growOk (l.length + l2.length) bytes = true) (hna : ¬ ownOf a id) {m : Nat} (m1 : nx ≤ m) (m2 : id < m) :
    ∃ e, appD h a l.length c es bytes id (l2.length, rows2.flatten, rd) = some e ∧ e.n = l.length + l2.length ∧ OwnRows Q (h.puts e.sets) m e.a es (l ++ l2) ∧ Frm (fun i => ownOf a i ∨ i = id) h nx (h.puts e.sets) m ∧ (∀ i, ownOf e.a i → ownOf a i ∨ i = id) := by
  by_cases hz : l2.length = 0
  · obtain rfl : l2 = [] := List.length_eq_zero_iff.1 hz
    refine ⟨⟨a, l.length, c, [], rd⟩, by simp [appD], by simp, ?_, ⟨by omega, fun i hi _ => rfl⟩, fun i q => .inl q⟩
    rw [List.append_nil]
    exact w.go (D := fun _ => False) ⟨by omega, fun i hi _ => rfl⟩ (fun _ _ q => q) (fun _ _ q => q)
  obtain ⟨rows, q, len, s⟩ := w
  have hl := flat_len len
  rw [q.len] at hl
  have hall : ∀ r ∈ rows ++ rows2, r.length = es := fun r hr => by rcases List.mem_append.1 hr with hr | hr; exact len r hr; exact len2 r hr
  have own2 : ∀ i, ownOf (some (id, 0)) i → i = id := fun i ⟨o, q⟩ => by simp only [Option.some.injEq, Prod.mk.injEq] at q; exact q.1.symm
  rcases s with ⟨rfl, rfl⟩ | ⟨b, rfl, b1, b2⟩
  · have hrows : rows = [] := by simpa [All2] using q
    subst hrows
    refine ⟨⟨some (id, 0), l2.length, false, [(id, some ⟨rows2.flatten, es, true⟩)], rd⟩, ?_, by simp, ⟨rows2, q2, len2, .inr ⟨id, rfl, by omega, by rw [puts_cons, puts_nil, put_same]⟩⟩, ⟨by omega, fun i hi hd => by rw [puts_cons, puts_nil, put_ne (fun q => hd (.inr q))]⟩, fun i q => .inr (own2 i q)⟩
    unfold appD; rw [if_neg hz, if_pos hg]; simp
  · have ht : (rows.flatten.drop 0).take (l.length * es) = rows.flatten := by rw [List.drop_zero, List.take_of_length_le (by omega)]
    cases c with
    | true =>
      refine ⟨⟨some (id, 0), l.length + l2.length, false, [(id, some ⟨rows.flatten ++ rows2.flatten, es, true⟩)], b :: rd⟩, ?_, rfl, ⟨rows ++ rows2, q.append q2, hall, .inr ⟨id, rfl, by omega, by rw [puts_cons, puts_nil, put_same, List.flatten_append]⟩⟩, ⟨by omega, fun i hi hd => by rw [puts_cons, puts_nil, put_ne (fun q => hd (.inr q))]⟩, fun i q => .inr (own2 i q)⟩
      unfold appD; rw [if_neg hz, if_pos hg]; simp only [b2, Option.bind_some, ht]; rw [if_pos (by rw [Bool.and_eq_true]; exact ⟨beq_self_eq_true es, decide_eq_true (by rw [Nat.zero_add]; omega)⟩)]; simp
    | false =>
      refine ⟨⟨some (id, 0), l.length + l2.length, false, [(b, none), (id, some ⟨rows.flatten ++ rows2.flatten, es, true⟩)], b :: rd⟩, ?_, rfl, ⟨rows ++ rows2, q.append q2, hall, .inr ⟨id, rfl, by omega, by rw [puts_cons, puts_cons, puts_nil, put_same, List.flatten_append]⟩⟩, ⟨by omega, fun i hi hd => ?_⟩, fun i q => .inr (own2 i q)⟩
      · unfold appD; rw [if_neg hz, if_pos hg]; simp only [b2, Option.bind_some, ht]; rw [if_pos (by rw [Bool.and_eq_true]; exact ⟨beq_self_eq_true es, decide_eq_true (by rw [Nat.zero_add]; omega)⟩)]; simp
      · rw [puts_cons, puts_cons, puts_nil, put_ne (fun q => hd (.inr q)), put_ne (fun e => hd (.inl ⟨0, by rw [e]⟩))]

theorem OwnRows.app {α : Type} {Q : α → List AV → Prop} {h : AHeap} {nx : Nat} {a : Option (Nat × Nat)} {es : Nat} {l l2 : List α} (w : OwnRows Q h nx a es l) (c : Bool) {bytes id : Nat} {rows2 : List (List AV)} (q2 : All2 Q l2 rows2) (len2 : ∀ r ∈ rows2, r.length = es) (rd : List Nat) (hg : growOk (l.length + l2.length) bytes = true) (h1 : nx ≤ id) :
    ∃ e, appD h a l.length c es bytes id (l2.length, rows2.flatten, rd) = some e ∧ e.n = l.length + l2.length ∧ OwnRows Q (h.puts e.sets) (id + 1) e.a es (l ++ l2) ∧ Frm (ownOf a) h nx (h.puts e.sets) (id + 1) ∧ (∀ i, ownOf e.a i → ownOf a i ∨ i = id) := by
  obtain ⟨e, p1, p2, p3, p4, p5⟩ := w.app2 (id := id) c q2 len2 rd hg (fun q => by have := w.lt q; omega) (m := id + 1) (by omega) (by omega)
  exact ⟨e, p1, p2, p3, p4.more (fun i hi q => by rcases q with q | q; exact q; omega), p5⟩

theorem appD_ids {h : AHeap} {es bytes id : Nat} {q : Nat × List AV × List Nat} {e : AE} (he : appD h none 0 false es bytes id q = some e) : ∀ i ∈ idsOf e.sets, i = id := by
  unfold appD at he
  split at he
  · simp only [Option.some.injEq] at he; subst he; intro i hi; simp [idsOf] at hi
  · split at he
    · simp only [Option.some.injEq] at he; subst he; intro i hi; simpa [idsOf] using hi
    · simp at he


theorem Sl.srcL {h : AHeap} {nx : Nat} {a : Option (Nat × Nat)} {n es : Nat} {vs : List AV} (s : Sl h nx a n es vs) : ∃ rd, srcS h a n es = some (n, vs, rd) ∧ ∀ x ∈ rd, x < nx := by
  by_cases hn : n = 0
  · subst hn
    have : vs = [] := by have := s.1; simp at this; exact this
    subst this
    exact ⟨[], by cases a <;> simp [srcS], fun x hx => by cases hx⟩
  · obtain ⟨p, b, rfl, e2, e3, e4, e5, e6⟩ := s.2 0 (by omega)
    obtain ⟨rd, e⟩ := s.src'
    refine ⟨rd, e, ?_⟩
    simp only [srcS] at e
    rw [if_neg hn, e3] at e
    simp only [Option.bind_some] at e
    split at e
    · simp only [Option.some.injEq, Prod.mk.injEq] at e
      obtain ⟨_, _, rfl⟩ := e
      intro x hx; simp at hx; omega
    · cases e
theorem Rows.srcs {α : Type} {Q : α → List AV → Prop} {A : Nat → Prop} {h : AHeap} {nx : Nat} {a : Option (Nat × Nat)} {es : Nat} {l : List α} (w : Rows Q h nx A a es l) : ∃ rows rd, All2 Q l rows ∧ (∀ r ∈ rows, r.length = es) ∧ srcS h a l.length es = some (l.length, rows.flatten, rd) ∧ ∀ x ∈ rd, x < nx := by
  obtain ⟨rows, q, len, s, _⟩ := w
  obtain ⟨rd, e, k⟩ := s.srcL
  exact ⟨rows, rd, q, len, e, k⟩
theorem appD_reads {h : AHeap} {es bytes id : Nat} {q : Nat × List AV × List Nat} {e : AE} (he : appD h none 0 false es bytes id q = some e) : e.reads = q.2.2 := by
  unfold appD at he
  split at he
  · simp only [Option.some.injEq] at he; subst he; rfl
  · split at he
    · simp only [Option.some.injEq] at he; subst he; rfl
    · simp at he
theorem appD_c {h : AHeap} {es bytes id : Nat} {q : Nat × List AV × List Nat} {e : AE} (he : appD h none 0 false es bytes id q = some e) : e.c = false := by
  unfold appD at he
  split at he
  · simp only [Option.some.injEq] at he; subst he; rfl
  · split at he
    · simp only [Option.some.injEq] at he; subst he; rfl
    · simp at he

/-- One's own rows, copied. -/
theorem copy_rows {α : Type} {Q : α → List AV → Prop} {h : AHeap} {nx : Nat} {a : Option (Nat × Nat)} {es bytes id : Nat} {l : List α} (w : Rows Q h nx (fun _ => False) a es l) (hl : l.length ≤ 100000) (hb : bytes ≤ 1024) (hid : nx ≤ id) :
    ∃ rows rd e, srcS h a l.length es = some (l.length, rows, rd) ∧ appD h none 0 false es bytes id (l.length, rows, rd) = some e ∧ e.n = l.length ∧ Ext h nx (h.puts e.sets) (id + 1) ∧ OwnRows Q (h.puts e.sets) (id + 1) e.a es l ∧ (∀ i, ownOf e.a i → i = id) ∧ (∀ i ∈ idsOf e.sets, i = id) ∧ ∀ x ∈ e.reads, x < nx := by
  obtain ⟨rows, rd, q, len, src, hrd⟩ := w.srcs
  obtain ⟨e, p1, p2, p3, p4, p5⟩ := (OwnRows.nil Q h nx es).app (l2 := l) false (bytes := bytes) (id := id) q len rd (growOk_of (by simp; omega) hb) hid
  rw [List.length_nil] at p1
  rw [List.nil_append] at p3
  rw [List.length_nil, Nat.zero_add] at p2
  exact ⟨_, rd, e, src, p1, p2, ⟨p4.1, fun i hi => p4.2 i hi (fun q => no_own q)⟩, p3, fun i q => by rcases p5 i q with q | q; exact (no_own q).elim; exact q, appD_ids p1, by rw [appD_reads p1]; exact hrd⟩

/-! ### lists of steps -/
theorem runF_app (fo : Fo) (a b : List Stp) : runF fo (a ++ b) = runF (runF fo a) b := by
  induction a generalizing fo with
  | nil => rfl
  | cons s a ih => exact ih _
theorem runA_app (fo : Fo) (a b : List Stp) : runA fo (a ++ b) = runA fo a ++ runA (runF fo a) b := by
  induction a generalizing fo with
  | nil => rfl
  | cons s a ih => simp only [List.cons_append, runA, runF, ih]
theorem OkAll_app {fo : Fo} {a b : List Stp} (h : OkAll fo a) (k : OkAll (runF fo a) b) : OkAll fo (a ++ b) := by
  induction a generalizing fo with
  | nil => exact k
  | cons s a ih => exact ⟨h.1, ih h.2 k⟩
theorem runA_len (fo : Fo) (a : List Stp) : (runA fo a).length = a.length := by
  induction a generalizing fo with
  | nil => rfl
  | cons s a ih => simp only [runA, List.length_cons, ih]
theorem runF_ok {fo : Fo} (w : FoOk fo) : ∀ {a : List Stp}, OkAll fo a → FoOk (runF fo a)
  | [], _ => w
  | s :: a, k => runF_ok (stepL_ok w k.1) k.2
/-- Each makes a version. -/
def MkAll (l : List Stp) : Prop := ∀ s ∈ l, s.kind = 1 ∨ s.kind = 2
theorem stepL_mk (fo : Fo) {s : Stp} (h : s.kind = 1 ∨ s.kind = 2) : ∃ v m, (stepL fo s).1 = ⟨fo.vs ++ [v], m⟩ := by
  unfold stepL
  rcases h with h | h
  · rw [if_pos h]; exact ⟨_, _, rfl⟩
  · rw [if_neg (by omega), if_pos h]; exact ⟨_, _, rfl⟩
theorem runF_mk : ∀ (l : List Stp) (fo : Fo), MkAll l → ∃ vs, vs.length = l.length ∧ (runF fo l).vs = fo.vs ++ vs
  | [], fo, _ => ⟨[], rfl, by simp [runF]⟩
  | s :: l, fo, h => by
    obtain ⟨v, m, e⟩ := stepL_mk fo (h s List.mem_cons_self)
    obtain ⟨vs, h1, h2⟩ := runF_mk l (stepL fo s).1 (fun x hx => h x (List.mem_cons_of_mem _ hx))
    refine ⟨v :: vs, by simp [h1], ?_⟩
    rw [runF, h2, e]; simp
theorem stepsL_mk : ∀ (k n : Nat) (l : List Edt), MkAll (stepsL k n l)
  | _, 0, _ => fun s hs => by simp [stepsL] at hs
  | _, _ + 1, [] => fun s hs => by simp [stepsL] at hs
  | k, n + 1, e :: l => fun s hs => by
    simp only [stepsL, List.mem_cons] at hs
    rcases hs with rfl | hs
    · unfold stepOf; split
      · exact .inr rfl
      · exact .inl rfl
    · exact stepsL_mk (k + 1) n l s hs
theorem stepsL_ok : ∀ (k n : Nat) (l : List Edt) (fo : Fo), k < fo.vs.length → OkAll fo (stepsL k n l)
  | _, 0, _, _, _ => trivial
  | _, _ + 1, [], _, _ => trivial
  | k, n + 1, e :: l, fo, h => by
    refine ⟨stepOf_ok k e h, stepsL_ok (k + 1) n l _ ?_⟩
    obtain ⟨v, m, q⟩ := stepL_mk fo (s := stepOf k e) (stepsL_mk k 1 [e] _ (by simp [stepsL]))
    rw [q]; simp; omega

def readS (v : Nat) : Stp := ⟨3, v, 0, 4096, []⟩
def verV (jobs : List Stp) (v : Nat) : Vn := (runF fo0 jobs).vs.getD v noV
theorem verV_ok {jobs : List Stp} (ok : OkAll fo0 jobs) {v : Nat} (hv : v < (runF fo0 jobs).vs.length) : VOk v (verV jobs v) :=
  (runF_ok fo0_ok ok).ok v _ (by unfold verV; rw [List.getD_eq_getElem?_getD, List.getElem?_eq_getElem hv]; rfl)
def bytesJ (jobs : List Stp) (v : Nat) : List Int := bytesV (verV jobs v).s (verV jobs v).t
theorem bytesJ_len (jobs : List Stp) (v : Nat) : (bytesJ jobs v).length = (verV jobs v).s := by unfold bytesJ; rw [bytesV_len]

theorem bytesOf_spec {f : Nat} (hf : 400 ≤ f) (Y : YldF) {h0 : AHeap} {n0 : Nat} {xa : Option (Nat × Nat)} (xc : Bool) {jobs : List Stp} (hx : Rows (StepR h0 n0 fun _ => False) h0 n0 (fun _ => False) xa 5 jobs) (ok : OkAll fo0 jobs) (hj : jobs.length ≤ 200) {v : Nat} (hv : v < (runF fo0 jobs).vs.length) :
    ∃ a c h' nx', callP Try.prog keepT f Y 10 [.slice xa jobs.length xc, .int .i64 (v : Int)] h0 n0 = some (.tuple [.slice a (bytesJ jobs v).length c, .bool true], h', nx') ∧ Ext h0 n0 h' nx' ∧ Sl h' nx' a (bytesJ jobs v).length 1 (ints .u8 (bytesJ jobs v)) := by
  obtain ⟨f, rfl⟩ : ∃ m, f = m + 1 := ⟨f - 1, by omega⟩
  rw [F10_eq]
  obtain ⟨rows, rd, e2, r1, r2, r3, r4, r5, r6, r7, r8⟩ := copy_rows hx (bytes := 56) (id := n0 + 3) (by omega) (by omega) (by omega)
  rw [r1]
  simp only [mst_]
  rw [r2]
  simp only [mst_]
  obtain ⟨e6, p1, p2, p3, p4, p5, p6, p7, p8⟩ := r5.push e2.c (bytes := 56) (id := n0 + 6) (id2 := n0 + 7) (x := readS v) (r := [.int .i64 3, .int .i64 (v : Int), .int .i64 0, .int .i64 4096, .slice none 0 false]) rfl ⟨_, rfl, byt_nil⟩ (growOk_of (by omega) (by omega)) (by omega) (by omega)
  rw [p1]
  simp only [mst_]
  rw [r3, p2]
  simp only [mst_]
  rw [p3] at p5
  rw [p3, p4]
  have x7 : Ext h0 n0 (((h0.puts e2.sets).put (n0 + 6) (some ⟨[.int .i64 3, .int .i64 (v : Int), .int .i64 0, .int .i64 4096, .slice none 0 false], 5, true⟩)).puts e6.sets) (n0 + 8) := ⟨by omega, fun i hi => by rw [p6.2 i (by omega) (fun q => by have := r6 i q; omega), r4.2 i hi]⟩
  generalize ((h0.puts e2.sets).put (n0 + 6) (some ⟨[.int .i64 3, .int .i64 (v : Int), .int .i64 0, .int .i64 4096, .slice none 0 false], 5, true⟩)).puts e6.sets = h7 at *
  have o8 : OwnRows (StepR h7 (n0 + 14) fun _ => False) h7 (n0 + 14) (some (n0 + 7, 0)) 5 (jobs ++ [readS v]) := p5.go (Frm.le (Frm.refl (fun _ => False) h7 (n0 + 7 + 1)) (by omega)) (fun _ _ q => q) (fun _ _ r => r.go (Frm.le (x7.fr fun _ => False) (by omega)) (fun _ _ q => q) (fun _ _ q => q))
  have ok8 : OkAll fo0 (jobs ++ [readS v]) := OkAll_app ok ⟨⟨hv, .inr (.inr ⟨rfl, rfl, rfl⟩)⟩, trivial⟩
  obtain ⟨a9, c9, h9, n9, g1, g2, g3, g4⟩ := Play_spec (f := f) (by omega) Y e6.c (o8.rows (A := fun _ => False) (fun _ _ q => q)) ok8 (by simp; omega)
  rw [List.length_append, List.length_singleton] at g1
  rw [g1]
  simp only [mst_]
  have hra : (runA fo0 (jobs ++ [readS v])) = runA fo0 jobs ++ [(0, (verV jobs v).s, bytesJ jobs v)] := by
    rw [runA_app]
    congr 1
  have hlen : (runA fo0 (jobs ++ [readS v])).length = jobs.length + 1 := by rw [runA_len]; simp
  rw [if_neg (by decide), wsucc (by omega), if_neg (by simp), F10_J1_eq]
  obtain ⟨r, ⟨sv, er, sb⟩, _, rd1, _⟩ := g4.read (R := Res) (i := jobs.length) (x := (0, (verV jobs v).s, bytesJ jobs v)) (by rw [hra, List.getElem?_append_right (by rw [runA_len]; omega), runA_len]; simp)
  rw [hlen] at rd1
  rw [rd1, er]
  obtain ⟨b1, b2, rfl, b3, _⟩ := sb
  simp only [mst_, mst5]
  rw [st_all (put_same h9 _ _) (by simp) (by simp) (by simp [allOne, AV.one]), put_put]
  have ej : (h9.put (n9 + 10 + 5) (some ⟨[.int .i64 0, .int .i64 ((0 : Nat) : Int), .int .i64 ((verV jobs v).s : Int), .slice b1 (bytesJ jobs v).length b2], 4, true⟩)) (n9 + 10 + 5) = _ := put_same _ _ _
  have x10 : Ext h9 n9 (h9.put (n9 + 10 + 5) (some ⟨[.int .i64 0, .int .i64 ((0 : Nat) : Int), .int .i64 ((verV jobs v).s : Int), .slice b1 (bytesJ jobs v).length b2], 4, true⟩)) (n9 + 10 + 22) := ⟨by omega, fun i hi => put_ne (by omega)⟩
  generalize h9.put (n9 + 10 + 5) (some ⟨[.int .i64 0, .int .i64 ((0 : Nat) : Int), .int .i64 ((verV jobs v).s : Int), .slice b1 (bytesJ jobs v).length b2], 4, true⟩) = h10 at *
  rw [ld_at ej (v := .slice b1 (bytesJ jobs v).length b2) rfl]
  simp only [mst_]
  rw [ld_at ej (v := .int .i64 0) rfl]
  simp only [mst_]
  rw [if_pos (by decide), ld_at ej (v := .int .i64 ((verV jobs v).s : Int)) rfl]
  simp only [mst_]
  rw [ld_at ej (v := .slice b1 (bytesJ jobs v).length b2) rfl]
  simp only [mst_]
  refine ⟨b1, b2, h10, n9 + 10 + 22, ?_, ⟨by have := g2.1; have := x10.1; omega, fun i hi => by have := g2.1; rw [x10.2 i (by omega), g2.2 i (by omega), x7.2 i hi]⟩, b3.ext x10⟩
  have : (((verV jobs v).s : Int) == (((bytesJ jobs v).length : Nat) : Int)) = true := by rw [bytesJ_len]; simp
  rw [this]

end Go.Proofs.Ytogmdfbamgjjfaa.T
