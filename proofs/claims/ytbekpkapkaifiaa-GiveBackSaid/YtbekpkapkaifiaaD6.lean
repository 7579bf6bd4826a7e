/- Drives: jobs in a row, sectors, picks, comparisons. -/
import Derived.Test.YtbekpkapkaifiaaD5
set_option linter.unusedVariables false
set_option linter.unusedSimpArgs false
namespace Go.Proofs.Ytbekpkapkaifiaa.T
open Go Go.RowKit Go.Proofs

theorem OwnRows.app2 {α : Type} {Q : α → List AV → Prop} {h : AHeap} {nx : Nat} {a : Option (Nat × Nat)} {es : Nat} {l l2 : List α} (w : OwnRows Q h nx a es l) (c : Bool) {bytes id : Nat} {rows2 : List (List AV)} (q2 : All2 Q l2 rows2) (len2 : ∀ r ∈ rows2, r.length = es) (rd : List Nat) (hg : growOk (l.length + l2.length) bytes = true) (hna : ¬ ownOf a id) {m : Nat} (m1 : nx ≤ m) (m2 : id < m) :
    ∃ e, appD h a l.length c es bytes id (l2.length, rows2.flatten, rd) = some e ∧ e.n = l.length + l2.length ∧ OwnRows Q (h.puts e.sets) m e.a es (l ++ l2) ∧ Frm (fun i => ownOf a i ∨ i = id) h nx (h.puts e.sets) m ∧ (∀ i, ownOf e.a i → ownOf a i ∨ i = id) := by
  by_cases hz : l2.length = 0
  · obtain rfl : l2 = [] := List.length_eq_zero_iff.1 hz
    refine ⟨⟨a, l.length, c, [], rd⟩, by simp [appD], by simp, ?_, ⟨by omega, fun i hi _ => rfl⟩, fun i q => .inl q⟩
    rw [List.append_nil]
    exact w.go (D := fun _ => False) ⟨by omega, fun i hi _ => rfl⟩ (fun _ _ q => q) (fun _ _ q => q)
  obtain ⟨rows, q, len, s⟩ := w
  have hl := flat_len len
  rw [q.len] at hl
  have hall : ∀ r ∈ rows ++ rows2, r.length = es := fun r hr => by rcases List.mem_append.1 hr with hr | hr; exact len r hr; exact len2 r hr
  have own2 : ∀ i, ownOf (some (id, 0)) i → i = id := fun i ⟨o, q⟩ => by simp only [Option.some.injEq, Prod.mk.injEq] at q; exact q.1.symm
  rcases s with ⟨rfl, rfl⟩ | ⟨b, rfl, b1, b2⟩
  · have hrows : rows = [] := by simpa [All2] using q
    subst hrows
    refine ⟨⟨some (id, 0), l2.length, false, [(id, some ⟨rows2.flatten, es, true⟩)], rd⟩, ?_, by simp, ⟨rows2, q2, len2, .inr ⟨id, rfl, by omega, by rw [puts_cons, puts_nil, put_same]⟩⟩, ⟨by omega, fun i hi hd => by rw [puts_cons, puts_nil, put_ne (fun q => hd (.inr q))]⟩, fun i q => .inr (own2 i q)⟩
    unfold appD; rw [if_neg hz, if_pos hg]; simp
  · have ht : (rows.flatten.drop 0).take (l.length * es) = rows.flatten := by rw [List.drop_zero, List.take_of_length_le (by omega)]
    cases c with
    | true =>
      refine ⟨⟨some (id, 0), l.length + l2.length, false, [(id, some ⟨rows.flatten ++ rows2.flatten, es, true⟩)], b :: rd⟩, ?_, rfl, ⟨rows ++ rows2, q.append q2, hall, .inr ⟨id, rfl, by omega, by rw [puts_cons, puts_nil, put_same, List.flatten_append]⟩⟩, ⟨by omega, fun i hi hd => by rw [puts_cons, puts_nil, put_ne (fun q => hd (.inr q))]⟩, fun i q => .inr (own2 i q)⟩
      unfold appD; rw [if_neg hz, if_pos hg]; simp only [b2, Option.bind_some, ht]; rw [if_pos (by rw [Bool.and_eq_true]; exact ⟨beq_self_eq_true es, decide_eq_true (by rw [Nat.zero_add]; omega)⟩)]; simp
    | false =>
      refine ⟨⟨some (id, 0), l.length + l2.length, false, [(b, none), (id, some ⟨rows.flatten ++ rows2.flatten, es, true⟩)], b :: rd⟩, ?_, rfl, ⟨rows ++ rows2, q.append q2, hall, .inr ⟨id, rfl, by omega, by rw [puts_cons, puts_cons, puts_nil, put_same, List.flatten_append]⟩⟩, ⟨by omega, fun i hi hd => ?_⟩, fun i q => .inr (own2 i q)⟩
      · unfold appD; rw [if_neg hz, if_pos hg]; simp only [b2, Option.bind_some, ht]; rw [if_pos (by rw [Bool.and_eq_true]; exact ⟨beq_self_eq_true es, decide_eq_true (by rw [Nat.zero_add]; omega)⟩)]; simp
      · rw [puts_cons, puts_cons, puts_nil, put_ne (fun q => hd (.inr q)), put_ne (fun e => hd (.inl ⟨0, by rw [e]⟩))]

theorem OwnRows.app {α : Type} {Q : α → List AV → Prop} {h : AHeap} {nx : Nat} {a : Option (Nat × Nat)} {es : Nat} {l l2 : List α} (w : OwnRows Q h nx a es l) (c : Bool) {bytes id : Nat} {rows2 : List (List AV)} (q2 : All2 Q l2 rows2) (len2 : ∀ r ∈ rows2, r.length = es) (rd : List Nat) (hg : growOk (l.length + l2.length) bytes = true) (h1 : nx ≤ id) :
    ∃ e, appD h a l.length c es bytes id (l2.length, rows2.flatten, rd) = some e ∧ e.n = l.length + l2.length ∧ OwnRows Q (h.puts e.sets) (id + 1) e.a es (l ++ l2) ∧ Frm (ownOf a) h nx (h.puts e.sets) (id + 1) ∧ (∀ i, ownOf e.a i → ownOf a i ∨ i = id) := by
  obtain ⟨e, p1, p2, p3, p4, p5⟩ := w.app2 (id := id) c q2 len2 rd hg (fun q => by have := w.lt q; omega) (m := id + 1) (by omega) (by omega)
  exact ⟨e, p1, p2, p3, p4.more (fun i hi q => by rcases q with q | q; exact q; omega), p5⟩

theorem Rows.srcs {α : Type} {Q : α → List AV → Prop} {A : Nat → Prop} {h : AHeap} {nx : Nat} {a : Option (Nat × Nat)} {es : Nat} {l : List α} (w : Rows Q h nx A a es l) : ∃ rows rd, All2 Q l rows ∧ (∀ r ∈ rows, r.length = es) ∧ srcS h a l.length es = some (l.length, rows.flatten, rd) := by
  obtain ⟨rows, q, len, s, _⟩ := w
  obtain ⟨rd, e⟩ := s.src'
  exact ⟨rows, rd, q, len, e⟩

/-- Jobs in a block of one's own; A holds that block and none of their data. -/
def Jobs (h : AHeap) (nx : Nat) (A : Nat → Prop) (a : Option (Nat × Nat)) (l : List Job) : Prop := OwnRows (JobR h nx A) h nx a 4 l ∧ ∀ i, ownOf a i → A i
theorem Jobs.go {h h' : AHeap} {nx nx' : Nat} {A A' D : Nat → Prop} {a : Option (Nat × Nat)} {l : List Job} (w : Jobs h nx A a l) (f : Frm D h nx h' nx') (d : ∀ i, i < nx → D i → A i) (g : ∀ i, i < nx → A' i → A i) (k : ∀ i, A i → A' i) (n : ∀ i, ownOf a i → ¬ D i) : Jobs h' nx' A' a l :=
  ⟨w.1.go f n (fun _ _ r => r.go f d g), fun i q => k _ (w.2 i q)⟩
theorem Jobs.ext {h h' : AHeap} {nx nx' : Nat} {A : Nat → Prop} {a : Option (Nat × Nat)} {l : List Job} (w : Jobs h nx A a l) (x : Ext h nx h' nx') : Jobs h' nx' A a l :=
  w.go (x.fr fun _ => False) (fun _ _ q => q.elim) (fun _ _ q => q) (fun _ q => q) (fun _ _ q => q)
theorem Jobs.rows {h : AHeap} {nx : Nat} {A : Nat → Prop} {a : Option (Nat × Nat)} {l : List Job} (w : Jobs h nx A a l) : Rows (JobR h nx fun _ => False) h nx (fun _ => False) a 4 l :=
  (w.1.rows (A := fun _ => False) (fun _ _ q => q)).go (Frm.refl (fun _ => False) h nx) (fun _ _ q => q) (fun _ _ q => q) (fun _ _ r => r.go (Frm.refl (fun _ => False) h nx) (fun _ _ q => q.elim) (fun _ _ q => q.elim))
theorem Jobs.app {h : AHeap} {nx : Nat} {A : Nat → Prop} {a : Option (Nat × Nat)} {l l2 : List Job} (w : Jobs h nx A a l) (c : Bool) {bytes id : Nat} {rows2 : List (List AV)} (q2 : All2 (JobR h nx A) l2 rows2) (len2 : ∀ r ∈ rows2, r.length = 4) (rd : List Nat) (hg : growOk (l.length + l2.length) bytes = true) (h1 : nx ≤ id) :
    ∃ e, appD h a l.length c 4 bytes id (l2.length, rows2.flatten, rd) = some e ∧ e.n = (l ++ l2).length ∧ Jobs (h.puts e.sets) (id + 1) (fun i => A i ∨ i = id) e.a (l ++ l2) ∧ Frm A h nx (h.puts e.sets) (id + 1) := by
  obtain ⟨e, p1, p2, p3, p4, p5⟩ := w.1.app c q2 len2 rd hg h1
  have fr : Frm A h nx (h.puts e.sets) (id + 1) := p4.more fun i _ q => w.2 i q
  refine ⟨e, p1, by rw [p2, List.length_append], ⟨p3.go (Frm.refl (fun _ => False) _ _) (fun _ _ q => q) (fun _ _ r => r.go fr (fun _ _ q => q) (fun i hi q => by rcases q with q | q; exact q; omega)), fun i q => ?_⟩, fr⟩
  rcases p5 i q with q | q
  · exact .inl (w.2 i q)
  · exact .inr q

theorem Jobs.app2 {h : AHeap} {nx : Nat} {A : Nat → Prop} {a : Option (Nat × Nat)} {l l2 : List Job} (w : Jobs h nx A a l) (c : Bool) {bytes id : Nat} {rows2 : List (List AV)} (q2 : All2 (JobR h nx A) l2 rows2) (len2 : ∀ r ∈ rows2, r.length = 4) (rd : List Nat) (hg : growOk (l.length + l2.length) bytes = true) (hna : ¬ ownOf a id) (hid : id < nx → A id) {m : Nat} (m1 : nx ≤ m) (m2 : id < m) :
    ∃ e, appD h a l.length c 4 bytes id (l2.length, rows2.flatten, rd) = some e ∧ e.n = (l ++ l2).length ∧ Jobs (h.puts e.sets) m (fun i => A i ∨ i = id) e.a (l ++ l2) ∧ Frm (fun i => ownOf a i ∨ i = id) h nx (h.puts e.sets) m ∧ (∀ i, ownOf e.a i → ownOf a i ∨ i = id) := by
  obtain ⟨e, p1, p2, p3, p4, p5⟩ := w.1.app2 c q2 len2 rd hg hna m1 m2
  have fr : Frm (fun i => A i ∨ i = id) h nx (h.puts e.sets) m := p4.more fun i _ q => by rcases q with q | q; exact .inl (w.2 i q); exact .inr q
  have dA : ∀ i, i < nx → (A i ∨ i = id) → A i := fun i hi q => by rcases q with q | q; exact q; rw [q] at hi ⊢; exact hid hi
  refine ⟨e, p1, by rw [p2, List.length_append], ⟨p3.go (Frm.refl (fun _ => False) _ _) (fun _ _ q => q) (fun _ _ r => r.go fr dA dA), fun i q => ?_⟩, p4, p5⟩
  rcases p5 i q with q | q
  · exact .inl (w.2 i q)
  · exact .inr q

/-! ### picks and sectors -/
def pickL (x n : Int) : Int := if Int.tmod x n < 0 then Int.tmod x n + n else Int.tmod x n
theorem pickL_in {x n : Int} (h : 0 < n) : 0 ≤ pickL x n ∧ pickL x n < n := by
  have h1 := Int.tmod_lt_of_pos x h
  have h2 : -n < Int.tmod x n := by
    have := Int.lt_tmod_of_pos x h; omega
  unfold pickL; split <;> omega
def pickK (x n : Int) : Nat := if Int.tmod x n < 0 then 11 else 9
theorem picked_spec {f : Nat} (hf : 1 ≤ f) (Y : YldF) (x n : Int) (h0 : 0 < n) (h1 : n ≤ 1000) (h : AHeap) (nx : Nat) : callP Try.prog keepT f Y 15 [.int .i64 x, .int .i64 n] h nx = some (.int .i64 (pickL x n), h, nx + pickK x n) := by
  obtain ⟨f, rfl⟩ : ∃ m, f = m + 1 := ⟨f - 1, by omega⟩
  have hl := Int.tmod_lt_of_pos x h0
  have hg := Int.lt_tmod_of_pos x h0
  rw [F15_eq, if_neg (by omega)]
  unfold pickL pickK
  by_cases c : Int.tmod x n < 0
  · rw [if_pos (decide_eq_true c), if_pos c, if_pos c, wA (by omega) (by omega)]
  · rw [if_neg (by rw [decide_eq_true_eq]; exact c), if_neg c, if_neg c]

def secF (x : Int) (i : Nat) : Int := wrapA .u8 (Int.fdiv x ((2:Int) ^ min (Int.toNat (wrapA .i64 (8 * (Int.tmod (i : Int) 8)))) (IntKind.bits .i64)))
def secL (x : Int) : List Int := (List.range 128).map (secF x)
theorem secL_len (x : Int) : (secL x).length = 128 := by simp [secL]

theorem sec_loop {f : Nat} {Y : YldF} {x : Int} {b : Nat} {h0 : AHeap} {n0 : Nat} (hb : n0 ≤ b) (d : Nat) :
    ∀ (lf k : Nat) (h : AHeap) (nx : Nat), k + d = 128 → d < lf → n0 ≤ nx → b < nx → (∀ i, i < n0 → h i = h0 i) → h b = some ⟨ints .u8 ((List.range k).map (secF x) ++ List.replicate d 0), 1, true⟩ →
      ∃ h' nx', F22_L1 (callP Try.prog keepT f) Y f lf x (some (b, 0)) 128 true (k : Int) h nx = some (.slice (some (b, 0)) 128 true, h', nx') ∧ Ext h0 n0 h' nx' ∧ b < nx' ∧ h' b = some ⟨ints .u8 (secL x), 1, true⟩ := by
  induction d with
  | zero =>
    intro lf k h nx e hl l0 lb hh hv
    obtain ⟨lf, rfl⟩ : ∃ m, lf = m + 1 := ⟨lf - 1, by omega⟩
    obtain rfl : k = 128 := by omega
    rw [F22_L1_eq, if_neg (by decide)]
    exact ⟨_, _, rfl, ⟨by omega, hh⟩, by omega, by rw [hv]; simp [secL]⟩
  | succ d ih =>
    intro lf k h nx e hl l0 lb hh hv
    obtain ⟨lf, rfl⟩ : ∃ m, lf = m + 1 := ⟨lf - 1, by omega⟩
    have ht : Int.tmod (k : Int) 8 = ((k % 8 : Nat) : Int) := by rw [Int.tmod_eq_emod_of_nonneg (by omega)]; omega
    rw [F22_L1_eq, if_pos (decide_eq_true (by omega)), if_neg (by rw [ht, wA (by omega) (by omega)]; omega)]
    simp only [bind_some', asI_int, asB_bool, asStr_str, asP_ptr, asSl_sl, asAgg_1, asAgg_2, asAgg_3, asAgg_4, asTup_0, asTup_2, asTup_3, asTup_4, if_true', if_false', if_not_true', if_not_false', getD_0, getD_1, getD_2, getD_3]
    rw [if_pos ⟨by omega, by omega⟩, Nat.zero_add, Nat.mul_one, Int.toNat_natCast, st_one hv rfl (by simp [ints])]
    rw [wsucc (by omega)]
    have hs : (ints .u8 ((List.range k).map (secF x) ++ List.replicate (d + 1) 0)).set k (.int .u8 (secF x k)) = ints .u8 ((List.range (k + 1)).map (secF x) ++ List.replicate d 0) := by
      unfold ints
      rw [List.replicate_succ, ← List.map_set, List.set_append_right _ _ (by simp), List.range_succ]
      simp
    show ∃ h' nx', F22_L1 (callP Try.prog keepT f) Y f lf x (some (b, 0)) 128 true ((k + 1 : Nat) : Int) (h.put b (some ⟨(ints .u8 ((List.range k).map (secF x) ++ List.replicate (d + 1) 0)).set k (.int .u8 (secF x k)), 1, true⟩)) (nx + 17) = _ ∧ _
    rw [hs]
    exact ih lf (k + 1) _ (nx + 17) (by omega) (by omega) (by omega) (by omega) (fun i hi => (put_ne (by omega)).trans (hh i hi)) (put_same _ _ _)

theorem sec_spec {f : Nat} (hf : 140 ≤ f) (Y : YldF) (x : Int) (h : AHeap) (nx : Nat) : ∃ b h' nx', callP Try.prog keepT f Y 22 [.int .i64 x] h nx = some (.slice (some (b, 0)) 128 true, h', nx') ∧ Ext h nx h' nx' ∧ nx ≤ b ∧ b < nx' ∧ h' b = some ⟨ints .u8 (secL x), 1, true⟩ := by
  obtain ⟨f, rfl⟩ : ∃ m, f = m + 1 := ⟨f - 1, by omega⟩
  rw [F22_eq, if_pos (by decide)]
  obtain ⟨h', nx', g1, g2, g3, g4⟩ := sec_loop (f := f) (Y := Y) (x := x) (b := nx + 1) (h0 := h) (n0 := nx) (by omega) 128 f 0 (h.put (nx + 1) (some ⟨madeA [.int .u8 0] (Int.toNat 128 * 1), 1, true⟩)) (nx + 4) (by omega) (by omega) (by omega) (by omega) (fun i hi => put_ne (by omega)) (by rw [put_same]; simp [madeA, ints])
  exact ⟨nx + 1, h', nx', g1, g2, by omega, g3, g4⟩

/-! ### comparisons -/
theorem same_loop {f : Nat} {Y : YldF} {a b : Option (Nat × Nat)} {ca cb : Bool} {u v : List Int} {h : AHeap} {n0 : Nat} (su : Sl h n0 a u.length 1 (ints .u8 u)) (sv : Sl h n0 b v.length 1 (ints .u8 v)) (he : u.length = v.length) (hu : u.length ≤ 1000) (d : Nat) :
    ∀ (lf k nx : Nat), k + d = u.length → d < lf → ∃ m, nx ≤ m ∧ F20_L1 (callP Try.prog keepT f) Y f lf a u.length ca b v.length cb (k : Int) h nx = some (.bool (decide (u.drop k = v.drop k)), h, m) := by
  induction d with
  | zero =>
    intro lf k nx e hl
    obtain ⟨lf, rfl⟩ : ∃ m, lf = m + 1 := ⟨lf - 1, by omega⟩
    obtain rfl : k = u.length := by omega
    rw [F20_L1_eq, if_neg (by rw [decide_eq_true_eq]; omega)]
    exact ⟨_, Nat.le_add_right _ 5, by rw [List.drop_length, he, List.drop_length]; rfl⟩
  | succ d ih =>
    intro lf k nx e hl
    obtain ⟨lf, rfl⟩ : ∃ m, lf = m + 1 := ⟨lf - 1, by omega⟩
    have hk : k < u.length := by omega
    have hk2 : k < v.length := by omega
    rw [F20_L1_eq, if_pos (decide_eq_true (by omega)), su.read0 (v := .int .u8 u[k]) (i := k) (by omega) (by omega) (by omega) (by simp [ints, hk])]
    simp only [bind_some', asI_int, asB_bool, asStr_str, asP_ptr, asSl_sl, asAgg_1, asAgg_2, asAgg_3, asAgg_4, asTup_0, asTup_2, asTup_3, asTup_4, if_true', if_false', if_not_true', if_not_false', getD_0, getD_1, getD_2, getD_3]
    rw [sv.read0 (v := .int .u8 v[k]) (i := k) (by omega) (by omega) (by omega) (by simp [ints, hk2])]
    simp only [bind_some', asI_int, asB_bool, asStr_str, asP_ptr, asSl_sl, asAgg_1, asAgg_2, asAgg_3, asAgg_4, asTup_0, asTup_2, asTup_3, asTup_4, if_true', if_false', if_not_true', if_not_false', getD_0, getD_1, getD_2, getD_3]
    rw [List.drop_eq_getElem_cons hk, List.drop_eq_getElem_cons hk2]
    by_cases c : u[k] = v[k]
    · rw [if_neg (by simp [c]), wsucc (by omega)]
      obtain ⟨m, l, q⟩ := ih lf (k + 1) (nx + 16) (by omega) (by omega)
      refine ⟨m, by omega, ?_⟩
      rw [q, c]; simp only [List.cons.injEq, true_and]
    · rw [if_pos (by simpa using c)]
      exact ⟨_, Nat.le_add_right _ 14, by simp only [List.cons.injEq, c, false_and, decide_false]⟩

theorem same_spec {f : Nat} (hf : 1010 ≤ f) (Y : YldF) {a b : Option (Nat × Nat)} (ca cb : Bool) {u v : List Int} {h : AHeap} {n0 : Nat} (su : Sl h n0 a u.length 1 (ints .u8 u)) (sv : Sl h n0 b v.length 1 (ints .u8 v)) (hu : u.length ≤ 1000) (nx : Nat) :
    ∃ m, nx ≤ m ∧ callP Try.prog keepT f Y 20 [.slice a u.length ca, .slice b v.length cb] h nx = some (.bool (decide (u = v)), h, m) := by
  obtain ⟨f, rfl⟩ : ∃ m, f = m + 1 := ⟨f - 1, by omega⟩
  rw [F20_eq]
  by_cases c : u.length = v.length
  · rw [if_neg (by simp [c])]
    obtain ⟨m, l, q⟩ := same_loop (f := f) (Y := Y) (ca := ca) (cb := cb) su sv c hu u.length f 0 (nx + 7) (by omega) (by omega)
    exact ⟨m, by omega, q⟩
  · rw [if_pos (by rw [bne_iff_ne]; omega)]
    refine ⟨_, Nat.le_add_right _ 7, ?_⟩
    have : ¬ u = v := fun e => c (by rw [e])
    simp [this]

end Go.Proofs.Ytbekpkapkaifiaa.T
