/- Rows at a block's beginning, behind which whatever may lie: to append, to read, to turn, to take one out. Nothing of one program. -/
import Derived.Test.YtaikceooeahfeaaSO
set_option linter.unusedVariables false
set_option linter.unusedSimpArgs false
namespace Go.Proofs.Ytaikceooeahfeaa.T
open Go Go.RowKit Go.Proofs

variable {R : Type} {h h' : AHeap} {nx nx' : Nat}

def Spr (h : AHeap) (nx : Nat) (a : Option (Nat × Nat)) (c : Option Nat) (es : Nat) (rows : List (List AV)) : Prop :=
  (∀ r ∈ rows, r.length = es) ∧ (∀ k, c = some k → rows.length ≤ capMin k) ∧ ((a = none ∧ rows = []) ∨ ∃ b sp, a = some (b, 0) ∧ b < nx ∧ h b = some ⟨rows.flatten ++ sp, es, true⟩)

theorem Spr.nil (h : AHeap) (nx es : Nat) : Spr h nx none none es [] := ⟨fun r hr => (by cases hr), fun k hk => (by cases hk), .inl ⟨rfl, rfl⟩⟩
theorem Spr.go {D : Nat → Prop} {a : Option (Nat × Nat)} {c : Option Nat} {es : Nat} {rows : List (List AV)} (w : Spr h nx a c es rows) (f : Frm D h nx h' nx') (d : ∀ i, ownOf a i → ¬ D i) : Spr h' nx' a c es rows := by
  obtain ⟨len, cc, s⟩ := w
  refine ⟨len, cc, ?_⟩
  rcases s with s | ⟨b, sp, e, b1, b2⟩
  · exact .inl s
  · exact .inr ⟨b, sp, e, by have := f.1; omega, (f.2 b b1 (d b ⟨0, e⟩)).trans b2⟩
theorem Spr.lt {a : Option (Nat × Nat)} {c : Option Nat} {es : Nat} {rows : List (List AV)} (w : Spr h nx a c es rows) : ∀ i, ownOf a i → i < nx := by
  rintro i ⟨o, rfl⟩
  rcases w.2.2 with ⟨e, _⟩ | ⟨b, sp, e, b1, _⟩
  · cases e
  · cases e; exact b1
theorem Spr.sl {a : Option (Nat × Nat)} {c : Option Nat} {es : Nat} {rows : List (List AV)} (w : Spr h nx a c es rows) : Sl h nx a rows.length es rows.flatten := by
  obtain ⟨len, _, s⟩ := w
  refine ⟨flat_len len, fun j hj => ?_⟩
  rcases s with ⟨_, rfl⟩ | ⟨b, sp, rfl, b1, b2⟩
  · simp at hj
  · exact ⟨(b, 0), _, rfl, b1, b2, rfl, by simp [flat_len len], fun q hq => by
      simp only [Nat.zero_add]
      rw [List.getElem?_append_left (by rw [flat_len len]; exact hq)]⟩

theorem flat_setc {es : Nat} : ∀ {rows : List (List AV)} {i f : Nat} {r : List AV} {v : AV}, (∀ r ∈ rows, r.length = es) → rows[i]? = some r → f < es → rows.flatten.set (i * es + f) v = (rows.set i (r.set f v)).flatten
  | [], i, f, r, v, _, hi, _ => by simp at hi
  | q :: rows, i, f, r, v, h, hi, hf => by
    have hq := h q List.mem_cons_self
    cases i with
    | zero =>
      simp at hi; subst hi
      simp only [Nat.zero_mul, Nat.zero_add, List.flatten_cons, List.set_cons_zero]
      rw [List.set_append_left _ _ (by omega)]
    | succ i =>
      simp at hi
      have ih := flat_setc (v := v) (fun u hu => h u (List.mem_cons_of_mem _ hu)) hi hf
      simp only [List.flatten_cons, List.set_cons_succ]
      rw [← ih, List.set_append_right _ _ (by rw [hq, Nat.add_mul]; omega)]
      congr 2
      rw [hq, Nat.add_mul]; omega

/-- One row more. -/
theorem Spr.push {a : Option (Nat × Nat)} {c : Option Nat} {es : Nat} {rows : List (List AV)} (w : Spr h nx a c es rows) {bytes id id2 : Nat} {r : List AV} (hr : r.length = es) (hg : growOk (rows.length + 1) bytes = true) (h1 : nx ≤ id) (h2 : id < id2) (hes : 0 < es := by decide) :
    ∃ e, srcS (h.put id (some ⟨r, es, true⟩)) (some (id, 0)) 1 es = some (1, r, [id]) ∧ appD (h.put id (some ⟨r, es, true⟩)) a rows.length c es bytes id2 (1, r, [id]) = some e ∧ e.n = rows.length + 1 ∧
      Spr ((h.put id (some ⟨r, es, true⟩)).puts e.sets) (id2 + 1) e.a e.c es (rows ++ [r]) ∧ Frm (ownOf a) h nx ((h.put id (some ⟨r, es, true⟩)).puts e.sets) (id2 + 1) ∧ ((h.put id (some ⟨r, es, true⟩)).puts e.sets) id = some ⟨r, es, true⟩ ∧ (∀ i, i ∈ idsOf e.sets → ownOf a i ∨ i = id2) ∧ ∀ i, ownOf e.a i → ownOf a i ∨ i = id2 := by
  obtain ⟨len, cc, s⟩ := w
  have hl := flat_len len
  have hlen' : ∀ u ∈ rows ++ [r], u.length = es := by
    intro u hu; rcases List.mem_append.1 hu with hu | hu
    · exact len u hu
    · simp at hu; subst hu; exact hr
  have hflat : (rows ++ [r]).flatten = rows.flatten ++ r := by simp
  rcases s with ⟨rfl, rfl⟩ | ⟨b, sp, rfl, b1, b2⟩
  · refine ⟨⟨some (id2, 0), 1, none, [(id2, some ⟨r, es, true⟩)], [id]⟩, src_lit hr, ?_, rfl, ⟨hlen', fun k hk => (by cases hk), .inr ⟨id2, [], rfl, by omega, by simp⟩⟩, ⟨by omega, fun i hi _ => ?_⟩, ?_, ?_, ?_⟩
    · unfold appD; rw [if_neg (by simp), if_pos (by simpa using hg)]; rfl
    · simp only [puts_cons, puts_nil]; rw [put_ne (by omega), put_ne (by omega)]
    · simp only [puts_cons, puts_nil]; rw [put_ne (by omega), put_same]
    · intro i hi; simp [idsOf] at hi; exact .inr hi
    · rintro i ⟨o, e⟩; cases e; exact .inr rfl
  · have hb : (h.put id (some ⟨r, es, true⟩)) b = some ⟨rows.flatten ++ sp, es, true⟩ := (put_ne (by omega)).trans b2
    have ht : ((rows.flatten ++ sp).drop 0).take (rows.length * es) = rows.flatten := by rw [List.drop_zero, ← hl, List.take_left]
    have c1 : (es == es && decide (0 + rows.length * es ≤ (rows.flatten ++ sp).length)) = true := by rw [Bool.and_eq_true]; exact ⟨beq_self_eq_true es, decide_eq_true (by rw [List.length_append, hl]; omega)⟩
    by_cases cl : capLt c (rows.length + 1) = true
    · refine ⟨⟨some (id2, 0), rows.length + 1, none, [(id2, some ⟨rows.flatten ++ r, es, true⟩)], b :: [id]⟩, src_lit hr, ?_, rfl, ⟨hlen', fun k hk => (by cases hk), .inr ⟨id2, [], rfl, by omega, by rw [hflat, List.append_nil]; simp only [puts_cons, puts_nil, put_same]⟩⟩, ⟨by omega, fun i hi _ => ?_⟩, ?_, ?_, ?_⟩
      · unfold appD; rw [if_neg (by simp), if_pos hg]; simp only [hb, Option.bind_some, ht]; rw [if_pos c1, if_pos cl]
      · simp only [puts_cons, puts_nil]; rw [put_ne (by omega), put_ne (by omega)]
      · simp only [puts_cons, puts_nil]; rw [put_ne (by omega), put_same]
      · intro i hi; simp [idsOf] at hi; exact .inr hi
      · rintro i ⟨o, e⟩; cases e; exact .inr rfl
    · by_cases ci : capIn c (rows.length + 1) (0 + (rows.length + 1) * es) (rows.flatten ++ sp).length = true
      · have hin : rows.length * es + es ≤ rows.flatten.length + sp.length ∧ ∀ k, c = some k → rows.length + 1 ≤ capMin k := by
          unfold capIn at ci
          cases c with
          | none => cases ci
          | some k =>
            simp only [Bool.and_eq_true, Nat.ble_eq] at ci
            exact ⟨by have := ci.2; rw [List.length_append, Nat.zero_add, Nat.add_mul] at this; omega, fun k' hk' => by cases hk'; exact ci.1⟩
        have hsp : splice (rows.flatten ++ sp) (0 + rows.length * es) r = (rows ++ [r]).flatten ++ sp.drop es := by
          unfold splice
          rw [Nat.zero_add, ← hl, List.take_left, hflat, hr, List.drop_append, List.drop_of_length_le (by omega), List.nil_append]
          congr 2; omega
        refine ⟨⟨some (b, 0), rows.length + 1, c, [(b, some ⟨splice (rows.flatten ++ sp) (0 + rows.length * es) r, es, true⟩)], b :: [id]⟩, src_lit hr, ?_, rfl, ⟨hlen', fun k hk => by rw [List.length_append]; exact hin.2 k hk, .inr ⟨b, sp.drop es, rfl, by omega, by simp only [puts_cons, puts_nil, put_same]; rw [hsp]⟩⟩, ⟨by omega, fun i hi hd => ?_⟩, ?_, ?_, ?_⟩
        · unfold appD; rw [if_neg (by simp), if_pos hg]; simp only [hb, Option.bind_some, ht]; rw [if_pos c1, if_neg (by simpa using cl), if_pos trivial, if_pos ci]
        · simp only [puts_cons, puts_nil]; rw [put_ne (fun e => hd ⟨0, by rw [e]⟩), put_ne (by omega)]
        · simp only [puts_cons, puts_nil]; rw [put_ne (by omega), put_same]
        · intro i hi; simp [idsOf] at hi; exact .inl ⟨0, by rw [hi]⟩
        · rintro i ⟨o, e⟩; exact .inl ⟨o, e⟩
      · refine ⟨⟨some (id2, 0), rows.length + 1, none, [(b, none), (id2, some ⟨rows.flatten ++ r, es, true⟩)], b :: [id]⟩, src_lit hr, ?_, rfl, ⟨hlen', fun k hk => (by cases hk), .inr ⟨id2, [], rfl, by omega, by rw [hflat, List.append_nil]; simp only [puts_cons, puts_nil, put_same]⟩⟩, ⟨by omega, fun i hi hd => ?_⟩, ?_, ?_, ?_⟩
        · unfold appD; rw [if_neg (by simp), if_pos hg]; simp only [hb, Option.bind_some, ht]; rw [if_pos c1, if_neg (by simpa using cl), if_pos trivial, if_neg ci]
        · simp only [puts_cons, puts_nil]; rw [put_ne (by omega), put_ne (fun e => hd ⟨0, by rw [e]⟩), put_ne (by omega)]
        · simp only [puts_cons, puts_nil]; rw [put_ne (by omega), put_ne (by omega), put_same]
        · intro i hi; simp [idsOf] at hi; rcases hi with rfl | rfl; exact .inl ⟨0, rfl⟩; exact .inr rfl
        · rintro i ⟨o, e⟩; cases e; exact .inr rfl

/-- A cell of a row is turned. -/
theorem Spr.turn {a : Option (Nat × Nat)} {c : Option Nat} {es : Nat} {rows : List (List AV)} (w : Spr h nx a c es rows) {i f : Nat} {r : List AV} {v : AV} (hi : rows[i]? = some r) (hf : f < es) (hv : v.one = true) :
    ∃ b sp, a = some (b, 0) ∧ b < nx ∧ (∀ K : ABlk → Option R, (stA h b (0 + i * es + f) v 1).bind K = K ⟨(rows.set i (r.set f v)).flatten ++ sp, es, true⟩) ∧ Spr (h.put b (some ⟨(rows.set i (r.set f v)).flatten ++ sp, es, true⟩)) nx a c es (rows.set i (r.set f v)) := by
  obtain ⟨len, cc, s⟩ := w
  have hl := flat_len len
  have hlt := (List.getElem?_eq_some_iff.1 hi).1
  rcases s with ⟨_, rfl⟩ | ⟨b, sp, rfl, b1, b2⟩
  · simp at hi
  · have hle : i * es + es ≤ rows.length * es := by
      have : (i + 1) * es ≤ rows.length * es := Nat.mul_le_mul_right _ hlt
      rw [Nat.add_mul, Nat.one_mul] at this; exact this
    refine ⟨b, sp, rfl, b1, fun K => st_to b2 hv (by rw [List.length_append]; omega) (by rw [Nat.zero_add, List.set_append_left _ _ (by omega), flat_setc len hi hf]) K, ?_⟩
    refine ⟨fun u hu => ?_, fun k hk => by rw [List.length_set]; exact cc k hk, .inr ⟨b, sp, rfl, b1, put_same _ _ _⟩⟩
    rcases List.mem_or_eq_of_mem_set hu with hu | rfl
    · exact len u hu
    · rw [List.length_set]; exact len r (List.mem_of_getElem? hi)

end Go.Proofs.Ytaikceooeahfeaa.T
