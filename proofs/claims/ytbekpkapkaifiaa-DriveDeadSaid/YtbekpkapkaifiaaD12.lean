/- DriveAll. -/
import Derived.Test.YtbekpkapkaifiaaD11
set_option linter.unusedVariables false
set_option linter.unusedSimpArgs false
namespace Go.Proofs.Ytbekpkapkaifiaa.T
open Go Go.RowKit Go.Proofs

abbrev JRows (h : AHeap) (nx : Nat) (a : Option (Nat × Nat)) (l : List Job) : Prop := Rows (JobR h nx fun _ => False) h nx (fun _ => False) a 4 l
theorem JRows.ext {h h' : AHeap} {nx nx' : Nat} {a : Option (Nat × Nat)} {l : List Job} (w : JRows h nx a l) (x : Ext h nx h' nx') : JRows h' nx' a l :=
  Rows.go w (x.fr fun _ => False) (fun _ _ q => q) (fun _ _ q => q) (fun _ _ r => r.go (x.fr fun _ => False) (fun _ _ q => q) (fun _ _ q => q))
def jobC (j : Job) : List AV := [.int .i64 j.kind, .int .i64 j.at_, .int .i64 j.keep, .slice none 0 false]

theorem plus_one {h : AHeap} {n : Nat} {a : Option (Nat × Nat)} {jobs : List Job} (w : JRows h n a jobs) (hj : jobs.length ≤ 100) (j : Job) (hd : j.data = []) {i1 i2 i3 : Nat} (h1 : n ≤ i1) (h2 : i1 < i2) (h3 : i2 < i3) :
    ∃ rows rd e1 e2, srcS h a jobs.length 4 = some (jobs.length, rows, rd) ∧ appD h none 0 false 4 48 i1 (jobs.length, rows, rd) = some e1 ∧ e1.n = jobs.length ∧
      srcS ((h.puts e1.sets).put i2 (some ⟨jobC j, 4, true⟩)) (some (i2, 0)) 1 4 = some (1, jobC j, [i2]) ∧ appD ((h.puts e1.sets).put i2 (some ⟨jobC j, 4, true⟩)) e1.a jobs.length e1.c 4 48 i3 (1, jobC j, [i2]) = some e2 ∧ e2.n = jobs.length + 1 ∧
      Ext h n (((h.puts e1.sets).put i2 (some ⟨jobC j, 4, true⟩)).puts e2.sets) (i3 + 1) ∧ JRows (((h.puts e1.sets).put i2 (some ⟨jobC j, 4, true⟩)).puts e2.sets) (i3 + 1) e2.a (jobs ++ [j]) := by
  obtain ⟨rows, rd, q, len, src⟩ := w.srcs
  obtain ⟨e1, p1, p2, p3, p4⟩ := Jobs.app (h := h) (nx := n) (A := fun _ => False) (a := none) (l := []) ⟨OwnRows.nil _ _ _ _, fun i q => (no_own q).elim⟩ false (bytes := 48) (id := i1) (l2 := jobs) q len rd (growOk_of (by simp; omega) (by omega)) h1
  rw [List.length_nil] at p1
  rw [List.nil_append] at p2 p3
  have x1 : Ext (h.puts e1.sets) (i1 + 1) ((h.puts e1.sets).put i2 (some ⟨jobC j, 4, true⟩)) (i2 + 1) := ⟨by omega, fun i hi => put_ne (by omega)⟩
  obtain ⟨e2, r1, r2, r3, r4⟩ := (p3.ext x1).app e1.c (bytes := 48) (id := i3) (l2 := [j]) (rows2 := [jobC j]) (All2.one ⟨_, rfl, by rw [hd]; exact byt_nil⟩) (fun r hr => by simp at hr; subst hr; rfl) [i2] (growOk_of (by simp; omega) (by omega)) (by omega)
  simp only [List.length_singleton, List.flatten_cons, List.flatten_nil, List.append_nil] at r1
  refine ⟨_, rd, e1, e2, src, p1, p2, src_lit rfl, r1, by rw [r2]; simp, ⟨by omega, fun i hi => ?_⟩, r3.rows⟩
  rw [r4.2 i (by omega) (fun q => by rcases q with q | q; exact q; omega), x1.2 i (by omega), p4.2 i hi (fun q => q)]

theorem flat_take {es : Nat} : ∀ {rows : List (List AV)} (k : Nat), (∀ r ∈ rows, r.length = es) → (rows.take k).flatten = rows.flatten.take (k * es)
  | [], k, _ => by simp
  | r :: rows, 0, _ => by simp
  | r :: rows, k + 1, h => by
    have hr := h r List.mem_cons_self
    rw [List.take_succ_cons, List.flatten_cons, List.flatten_cons, flat_take k (fun q hq => h q (List.mem_cons_of_mem _ hq)), List.take_append, hr, List.take_of_length_le (l := r) (by rw [hr, Nat.add_mul]; omega)]
    congr 2
    rw [Nat.add_mul]; omega
/-- A slice's beginning. -/
theorem jrows_cut {h : AHeap} {nx : Nat} {a : Option (Nat × Nat)} {l : List Job} (w : JRows h nx a l) (c : Bool) {k : Nat} (hk : k ≤ l.length) :
    ∃ a' c', cutA h a l.length c 4 none (some (.int .i64 (k : Int))) none = some (a', k, c') ∧ JRows h nx a' (l.take k) := by
  obtain ⟨rows, q, len, s, _⟩ := w
  obtain ⟨p1, p2, _⟩ := s.cut c (lo := 0) (hi := k) (by omega) hk (l := none) (r := some (.int .i64 (k : Int))) rfl (bound_some hk)
  have hkl : (l.take k).length = k := by rw [List.length_take]; omega
  refine ⟨_, _, p1, rows.take k, q.take k, fun r hr => len r (List.mem_of_mem_take hr), ?_, fun _ _ _ q => q⟩
  rw [hkl, flat_take k len]
  simpa using p2

/-! ### the law -/
def lastF : List Job → Nat → Nat → Nat
  | [], _, m => m
  | j :: js, k, m => lastF js (k + 1) (if j.kind = 3 then k + 1 else m)

theorem plate_keeps : ∀ {js : List Job} {s : DS}, Gd s → (∀ j ∈ js, JobG j ∧ (j.kind = 1 ∨ j.kind = 2)) → (stL s js).plate = s.plate
  | [], s, _, _ => rfl
  | j :: js, s, g, h => by
    obtain ⟨q, k⟩ := h j List.mem_cons_self
    show (stL (doL s j).1 js).plate = s.plate
    rw [plate_keeps (do_gd g q) (fun x hx => h x (List.mem_cons_of_mem _ hx))]
    rcases k with k | k
    · rw [do1 g k]
    · rw [do2 g k]

/-- The last flush: what is before it ends with empty waits; behind it nothing comes onto the plate. -/
theorem last_ok : ∀ (js pre : List Job) (m : Nat), (∀ j ∈ pre ++ js, JobG j ∧ (j.kind = 1 ∨ j.kind = 3 ∨ j.kind = 2)) → m ≤ pre.length → (stL (freshL 8) (pre.take m)).waits = [] → (∀ j ∈ pre.drop m, j.kind ≠ 3) →
    lastF js pre.length m ≤ (pre ++ js).length ∧ (stL (freshL 8) ((pre ++ js).take (lastF js pre.length m))).waits = [] ∧ ∀ j ∈ (pre ++ js).drop (lastF js pre.length m), j.kind ≠ 3
  | [], pre, m, h, hm, hw, hd => by simpa [lastF] using ⟨hm, hw, hd⟩
  | j :: js, pre, m, h, hm, hw, hd => by
    have e : pre ++ j :: js = (pre ++ [j]) ++ js := by simp
    have hl : (pre ++ [j]).length = pre.length + 1 := by simp
    rw [e, lastF, ← hl]
    rw [e] at h
    by_cases k : j.kind = 3
    · rw [if_pos k]
      refine last_ok js (pre ++ [j]) _ h (by omega) ?_ (by rw [List.drop_length]; intro x hx; cases hx)
      rw [List.take_length, stL_app]
      have g : Gd (stL (freshL 8) pre) := st_gd fresh_gd (fun x hx => (h x (by simp [hx])).1)
      show (doL (stL (freshL 8) pre) j).1.waits = []
      rw [do3 g k]
    · rw [if_neg k]
      refine last_ok js (pre ++ [j]) m h (by omega) (by rw [List.take_append_of_le_length hm]; exact hw) ?_
      rw [List.drop_append_of_le_length hm]
      intro x hx
      rcases List.mem_append.1 hx with hx | hx
      · exact hd x hx
      · simp at hx; subst hx; exact k

theorem keepS_all (k : Nat) : keepS (-1) k = true := by
  unfold keepS
  have h : ∀ e : Nat, Int.fdiv (-1) ((2:Int) ^ e) = -1 := fun e => by
    rw [Int.fdiv_eq_ediv_of_nonneg _ (by exact Int.le_of_lt (Int.pow_pos (by decide)))]
    have := Int.pow_pos (n := 2) (m := e) (by decide)
    exact Int.ediv_eq_neg_one_of_neg_of_le (by decide) (by omega)
  rw [h]; decide
theorem keepS_none (k : Nat) : keepS 0 k = false := by
  unfold keepS
  rw [Int.zero_fdiv]; decide

end Go.Proofs.Ytbekpkapkaifiaa.T
