/- Deeds out of acts. -/
import Derived.Test.YtbekpkapkaifiaaE8
set_option linter.unusedVariables false
set_option linter.unusedSimpArgs false
namespace Go.Proofs.Ytbekpkapkaifiaa.T
open Go Go.RowKit Go.Proofs

theorem flat_takeR {es : Nat} : ∀ {rows : List (List AV)} (k : Nat), (∀ r ∈ rows, r.length = es) → (rows.take k).flatten = rows.flatten.take (k * es)
  | [], k, _ => by simp
  | r :: rows, 0, _ => by simp
  | r :: rows, k + 1, h => by
    have hr := h r List.mem_cons_self
    rw [List.take_succ_cons, List.flatten_cons, List.flatten_cons, flat_takeR k (fun q hq => h q (List.mem_cons_of_mem _ hq)), List.take_append, hr, List.take_of_length_le (l := r) (by rw [hr, Nat.add_mul]; omega)]
    congr 2
    rw [Nat.add_mul]; omega
theorem flat_dropR {es : Nat} : ∀ {rows : List (List AV)} (k : Nat), (∀ r ∈ rows, r.length = es) → (rows.drop k).flatten = rows.flatten.drop (k * es)
  | [], k, _ => by simp
  | r :: rows, 0, _ => by simp
  | r :: rows, k + 1, h => by
    have hr := h r List.mem_cons_self
    rw [List.drop_succ_cons, List.flatten_cons, flat_dropR k (fun q hq => h q (List.mem_cons_of_mem _ hq)), List.drop_append, hr, List.drop_of_length_le (l := r) (by rw [hr, Nat.add_mul]; omega), List.nil_append]
    congr 1
    rw [Nat.add_mul]; omega
theorem All2.drop {α β : Type} {R : α → β → Prop} : ∀ {xs : List α} {ys : List β} (n : Nat), All2 R xs ys → All2 R (xs.drop n) (ys.drop n)
  | [], ys, n, h => by simp only [All2] at h; subst h; simp [All2]
  | x :: xs, ys, n, h => by
    obtain ⟨y, r, rfl, a, q⟩ := h
    cases n with
    | zero => exact ⟨y, r, rfl, a, q⟩
    | succ n => exact All2.drop n q
theorem rows_take {α : Type} {Q : α → List AV → Prop} {h : AHeap} {nx : Nat} {a : Option (Nat × Nat)} {es : Nat} {l : List α} (w : Rows Q h nx none' a es l) (c : Bool) {k : Nat} (hk : k ≤ l.length) :
    ∃ a' c', cutA h a l.length c es none (some (.int .i64 (k : Int))) none = some (a', k, c') ∧ Rows Q h nx none' a' es (l.take k) := by
  obtain ⟨rows, q, len, s, _⟩ := w
  obtain ⟨p1, p2, _⟩ := s.cut c (lo := 0) (hi := k) (by omega) hk (l := none) (r := some (.int .i64 (k : Int))) rfl (bound_some hk)
  have hkl : (l.take k).length = k := by rw [List.length_take]; omega
  refine ⟨_, _, p1, rows.take k, q.take k, fun r hr => len r (List.mem_of_mem_take hr), ?_, fun _ _ _ q => q⟩
  rw [hkl, flat_takeR k len]
  simpa using p2
theorem rows_drop {α : Type} {Q : α → List AV → Prop} {h : AHeap} {nx : Nat} {a : Option (Nat × Nat)} {es : Nat} {l : List α} (w : Rows Q h nx none' a es l) (c : Bool) {k : Nat} (hk : k ≤ l.length) :
    ∃ a' c', cutA h a l.length c es (some (.int .i64 (k : Int))) none none = some (a', l.length - k, c') ∧ Rows Q h nx none' a' es (l.drop k) := by
  obtain ⟨rows, q, len, s, _⟩ := w
  obtain ⟨p1, p2, _⟩ := s.cut c (lo := k) (hi := l.length) hk (Nat.le_refl _) (l := some (.int .i64 (k : Int))) (r := none) (bound_some hk) rfl
  have hkl : (l.drop k).length = l.length - k := List.length_drop
  refine ⟨_, _, p1, rows.drop k, q.drop k, fun r hr => len r (List.mem_of_mem_drop hr), ?_, fun _ _ _ q => q⟩
  have hfl := flat_len len
  rw [q.len] at hfl
  rw [hkl, flat_dropR k len]
  rw [List.take_of_length_le (by rw [List.length_drop, hfl, Nat.sub_mul]; omega)] at p2
  exact p2
theorem appD_ids {h : AHeap} {es bytes id : Nat} {q : Nat × List AV × List Nat} {e : AE} (he : appD h none 0 false es bytes id q = some e) : ∀ i ∈ idsOf e.sets, i = id := by
  unfold appD at he
  split at he
  · simp only [Option.some.injEq] at he; subst he; intro i hi; simp [idsOf] at hi
  · split at he
    · simp only [Option.some.injEq] at he; subst he; intro i hi; simpa [idsOf] using hi
    · simp at he

/-- One's own rows, copied. -/
theorem copy_rows {α : Type} {Q : α → List AV → Prop} {h : AHeap} {nx : Nat} {a : Option (Nat × Nat)} {es bytes id : Nat} {l : List α} (w : Rows Q h nx none' a es l) (hl : l.length ≤ 100000) (hb : bytes ≤ 1024) (hid : nx ≤ id) :
    ∃ rows rd e, srcS h a l.length es = some (l.length, rows, rd) ∧ appD h none 0 false es bytes id (l.length, rows, rd) = some e ∧ e.n = l.length ∧ Ext h nx (h.puts e.sets) (id + 1) ∧ OwnRows Q (h.puts e.sets) (id + 1) e.a es l ∧ (∀ i, ownOf e.a i → i = id) ∧ ∀ i ∈ idsOf e.sets, i = id := by
  obtain ⟨rows, rd, q, len, src⟩ := w.srcs
  obtain ⟨e, p1, p2, p3, p4, p5⟩ := (OwnRows.nil Q h nx es).app (l2 := l) false (bytes := bytes) (id := id) q len rd (growOk_of (by simp; omega) hb) hid
  rw [List.length_nil] at p1
  rw [List.nil_append] at p3
  rw [List.length_nil, Nat.zero_add] at p2
  exact ⟨_, rd, e, src, p1, p2, ⟨p4.1, fun i hi => p4.2 i hi (fun q => no_own q)⟩, p3, fun i q => by rcases p5 i q with q | q; exact (no_own q).elim; exact q, appD_ids p1⟩

def DdOk (N : Nat) (d : Deed) : Prop := (d.k = 1 ∧ d.a = 0 ∧ 1 ≤ d.n ∧ d.n ≤ 12) ∨ (d.k = 2 ∧ 0 ≤ d.a ∧ 0 ≤ d.n ∧ d.a + d.n ≤ N) ∨ (d.k = 3 ∧ d.a = 0 ∧ d.n = 0)
def HdOk (N : Nat) (hd : List (Nat × Nat)) : Prop := ∀ r ∈ hd, r.1 ≤ r.2 ∧ r.2 ≤ N
structure Act3 where
  k : Int
  w : Int
  n : Int
def Act3.row (a : Act3) : List AV := [.int .i64 a.k, .int .i64 a.w, .int .i64 a.n]

theorem stP_app (s : SP) (a b : List Deed) : stP s (a ++ b) = stP (stP s a) b := by
  induction a generalizing s with
  | nil => rfl
  | cons d a ih => exact ih _
theorem runP_app (s : SP) (a b : List Deed) : runP s (a ++ b) = runP s a ++ runP (stP s a) b := by
  induction a generalizing s with
  | nil => rfl
  | cons d a ih => simp only [List.cons_append, runP, stP, ih]
theorem runP_len (s : SP) (a : List Deed) : (runP s a).length = a.length := by
  induction a generalizing s with
  | nil => rfl
  | cons d a ih => simp only [runP, List.length_cons, ih]
theorem stP_ok {N : Nat} : ∀ {ds : List Deed} {s : SP}, Sok N s → Sok N (stP s ds)
  | [], s, h => h
  | d :: ds, s, h => by
    show Sok N (stP (doS s d).1 ds)
    exact stP_ok (doS_ok h d).1
theorem takeS_in {N : Nat} {s : SP} (w : Sok N s) {n : Int} (h : (takeS s n).2.1 = 0) : 1 ≤ n ∧ 0 ≤ (takeS s n).2.2 ∧ (takeS s n).2.2 + n ≤ N := by
  unfold takeS at h ⊢
  by_cases c : n < 1 ∨ n > s.u.length
  · rw [if_pos c] at h; simp at h
  · rw [if_neg c] at h ⊢
    cases hf : findL n.toNat s.u 0 0 with
    | none => rw [hf] at h; simp at h
    | some e =>
      obtain ⟨e1, e2, _⟩ := take_found (by omega) hf
      have := w.1
      simp only; omega

end Go.Proofs.Ytbekpkapkaifiaa.T
