/- All picks, gathered. -/
import Derived.Test.YtdjbhonncjcbjaaC1
set_option linter.unusedVariables false
set_option linter.unusedSimpArgs false
namespace Go.Proofs.Ytdjbhonncjcbjaa.T
open Go Go.RowKit Go.Proofs

/-- A slice that holds a pick, in a block that one holds on to. -/
def Held (h : AHeap) (O : Nat → Prop) (sb l rb : Nat) (v : AV) (q : List Nat) : Prop :=
  ∃ a c, v = .slice a q.length c ∧ (q = [] ∨ ∃ j, a = some (j, 0) ∧ O j ∧ j ≠ sb ∧ j ≠ l ∧ j ≠ rb ∧ h j = some ⟨ints .i64 (natInts q), 1, true⟩)
def HeldL (h : AHeap) (O : Nat → Prop) (sb l rb : Nat) : List AV → List (List Nat) → Prop
  | [], qs => qs = []
  | v :: vs, qs => ∃ q r, qs = q :: r ∧ Held h O sb l rb v q ∧ HeldL h O sb l rb vs r
theorem Held.mono {h h' : AHeap} {O O' : Nat → Prop} {sb l rb rb' : Nat} {v : AV} {q : List Nat} (x : Held h O sb l rb v q) (hh : ∀ j, O j → j ≠ sb → j ≠ l → j ≠ rb → O' j ∧ j ≠ rb' ∧ h' j = h j) : Held h' O' sb l rb' v q := by
  obtain ⟨a, c, e, r⟩ := x
  refine ⟨a, c, e, ?_⟩
  rcases r with r | ⟨j, e, o, n1, n2, n3, hj⟩
  · exact .inl r
  · obtain ⟨o', n', h'⟩ := hh j o n1 n2 n3
    exact .inr ⟨j, e, o', n1, n2, n', h'.trans hj⟩
theorem HeldL.mono {h h' : AHeap} {O O' : Nat → Prop} {sb l rb rb' : Nat} (hh : ∀ j, O j → j ≠ sb → j ≠ l → j ≠ rb → O' j ∧ j ≠ rb' ∧ h' j = h j) : ∀ {vs : List AV} {qs : List (List Nat)}, HeldL h O sb l rb vs qs → HeldL h' O' sb l rb' vs qs
  | [], qs, x => x
  | v :: vs, qs, x => by
    obtain ⟨q, r, e, a, b⟩ := x
    exact ⟨q, r, e, a.mono hh, HeldL.mono hh b⟩
theorem HeldL.len {h : AHeap} {O : Nat → Prop} {sb l rb : Nat} : ∀ {vs : List AV} {qs : List (List Nat)}, HeldL h O sb l rb vs qs → vs.length = qs.length
  | [], qs, x => by simp only [HeldL] at x; subst x; rfl
  | v :: vs, qs, x => by
    obtain ⟨q, r, rfl, a, b⟩ := x
    simp [HeldL.len b]
theorem HeldL.add {h : AHeap} {O : Nat → Prop} {sb l rb : Nat} {v : AV} {q : List Nat} (y : Held h O sb l rb v q) : ∀ {vs : List AV} {qs : List (List Nat)}, HeldL h O sb l rb vs qs → HeldL h O sb l rb (vs ++ [v]) (qs ++ [q])
  | [], qs, x => by simp only [HeldL] at x; subst x; exact ⟨q, [], rfl, y, rfl⟩
  | u :: vs, qs, x => by
    obtain ⟨p, r, rfl, a, b⟩ := x
    exact ⟨p, r ++ [q], rfl, a, HeldL.add y b⟩
theorem HeldL.get {h : AHeap} {O : Nat → Prop} {sb l rb : Nat} : ∀ {vs : List AV} {qs : List (List Nat)}, HeldL h O sb l rb vs qs → ∀ (i : Nat) (q : List Nat), qs[i]? = some q → ∃ v, vs[i]? = some v ∧ Held h O sb l rb v q
  | [], qs, x, i, q, hi => by simp only [HeldL] at x; subst x; simp at hi
  | v :: vs, qs, x, i, q, hi => by
    obtain ⟨p, r, rfl, a, b⟩ := x
    cases i with
    | zero => simp at hi; subst hi; exact ⟨v, rfl, a⟩
    | succ i => simp at hi; simpa using HeldL.get b i q hi

/-- What has been gathered: the variable sb, the loop's record l. -/
def Gath (sb l : Nat) (acc : List (List Nat)) (O : Nat → Prop) (h : AHeap) (nx : Nat) : Prop :=
  O sb ∧ O l ∧ sb ≠ l ∧ (∀ i, O i → i < nx) ∧ h l = some ⟨[], LB, true⟩ ∧
  ((acc = [] ∧ h sb = some ⟨[.slice none 0 false], 1, true⟩) ∨
   ∃ rb c vs, h sb = some ⟨[.slice (some (rb, 0)) acc.length c], 1, true⟩ ∧ O rb ∧ rb ≠ sb ∧ rb ≠ l ∧ h rb = some ⟨vs, 1, true⟩ ∧ HeldL h O sb l rb vs acc)

theorem isReady_at {h : AHeap} {l es : Nat} {cs : List AV} {own : Bool} (e : h l = some ⟨cs, es, own⟩) : isReady h l es = true := by
  unfold isReady; rw [e]; simp

theorem gath_step {k n : Nat} (Y' : YldF) {sb l : Nat} {acc : List (List Nat)} {O : Nat → Prop} {h : AHeap} {nx : Nat} (g : Gath sb l acc O h nx) {q : List Nat} {a : Option (Nat × Nat)} {c : Bool} {n0 : Nat} (o : OwnSl h n0 nx a q.length 1 (ints .i64 (natInts q))) (hn : ∀ i, O i → i < n0) (hacc : acc.length ≤ 1000) (hn0 : n0 ≤ nx) :
    ∃ O' h' nx', F43_R1 (callP Try.prog keepT k) Y' n l (some (sb, 0)) a q.length c h nx = some (.bool true, h', nx') ∧ nx ≤ nx' ∧ Gath sb l (acc ++ [q]) O' h' nx' ∧ (∀ i, O' i → O i ∨ n0 ≤ i) ∧ ∀ i, i < nx → ¬ O i → i < n0 → h' i = h i := by
  obtain ⟨g1, g2, g3, g4, g5, g6⟩ := g
  have ls := g4 _ g1; have ll := g4 _ g2; have ls0 := hn _ g1; have ll0 := hn _ g2
  rw [F43_R1_eq, if_pos (isReady_at g5)]
  dsimp only [Option.bind_some]
  generalize hh1 : AHeap.put h l _ = h1
  have h1i : ∀ i, i ≠ l → h1 i = h i := fun i hi => by rw [← hh1, put_ne hi]
  have h1l : h1 l = some ⟨[], LB + 1, true⟩ := by rw [← hh1, put_same]
  have hOj : ∀ j, a = some (j, 0) → q ≠ [] → n0 ≤ j ∧ j < nx ∧ h j = some ⟨ints .i64 (natInts q), 1, true⟩ := by
    intro j e hq
    rcases o.2 with ⟨e', e2⟩ | ⟨i, e', i1, i2, i3⟩
    · exact absurd (List.eq_nil_of_length_eq_zero e2) hq
    · rw [e] at e'; cases e'; exact ⟨i1, i2, i3⟩
  have hanone : q ≠ [] → ∃ j, a = some (j, 0) := by
    intro hq
    rcases o.2 with ⟨e', e2⟩ | ⟨i, e', _⟩
    · exact absurd (List.eq_nil_of_length_eq_zero e2) hq
    · exact ⟨i, e'⟩
  rcases g6 with ⟨rfl, g6⟩ | ⟨rb, rc, vs, g6, g7, g8, g9, g10, g11⟩
  · rw [ld_at ((h1i _ g3).trans g6) (v := .slice none 0 false) rfl]
    simp only [bind_some', asI_int, asB_bool, asStr_str, asP_ptr, asSl_sl, asAgg_1, asAgg_2, asAgg_3, asAgg_4, asTup_0, asTup_2, asTup_3, asTup_4, if_true', if_false', if_not_true', if_not_false', getD_0, getD_1, getD_2, getD_3]
    rw [src_lit1]
    simp only [bind_some', asI_int, asB_bool, asStr_str, asP_ptr, asSl_sl, asAgg_1, asAgg_2, asAgg_3, asAgg_4, asTup_0, asTup_2, asTup_3, asTup_4, if_true', if_false', if_not_true', if_not_false', getD_0, getD_1, getD_2, getD_3]
    have e1 : appD (h1.put (nx + 3) (some ⟨[.slice a q.length c], 1, true⟩)) none 0 false 1 24 (nx + 4) (1, [.slice a q.length c], [nx + 3]) = some ⟨some (nx + 4, 0), 1, false, [(nx + 4, some ⟨[.slice a q.length c], 1, true⟩)], [nx + 3]⟩ := by
      unfold appD; rw [if_neg (by simp), if_pos (growOk_of (by omega) (by omega))]; rfl
    rw [e1]
    simp only [bind_some', asI_int, asB_bool, asStr_str, asP_ptr, asSl_sl, asAgg_1, asAgg_2, asAgg_3, asAgg_4, asTup_0, asTup_2, asTup_3, asTup_4, if_true', if_false', if_not_true', if_not_false', getD_0, getD_1, getD_2, getD_3]
    rw [puts_cons, puts_nil]
    generalize hh2 : AHeap.put (AHeap.put h1 (nx + 3) _) (nx + 4) _ = h2
    have h2i : ∀ i, i < nx → h2 i = h1 i := fun i hi => by rw [← hh2, put_ne (by omega), put_ne (by omega)]
    have h2r : h2 (nx + 4) = some ⟨[.slice a q.length c], 1, true⟩ := by rw [← hh2, put_same]
    rw [st_at ((h2i _ ls).trans ((h1i _ g3).trans g6)) (n := 1) (v := .slice (some (nx + 4, 0)) 1 false) rfl (by simp [AV.cells]) rfl]
    generalize hh3 : AHeap.put h2 sb _ = h3
    have h3i : ∀ i, i ≠ sb → h3 i = h2 i := fun i hi => by rw [← hh3, put_ne hi]
    have h3s : h3 sb = some ⟨[.slice (some (nx + 4, 0)) 1 false], 1, true⟩ := by rw [← hh3, put_same]; simp [splice, AV.cells]
    have h3l : h3 l = some ⟨[], LB + 1, true⟩ := (h3i _ (fun e => g3 e.symm)).trans ((h2i _ ll).trans h1l)
    rw [if_pos (isReady_at h3l)]
    refine ⟨fun i => O i ∨ i = nx + 4 ∨ ∃ j, a = some (j, 0) ∧ q ≠ [] ∧ i = j, _, _, rfl, by omega, ⟨.inl g1, .inl g2, g3, ?_, by simp, .inr ⟨nx + 4, false, [.slice a q.length c], ?_, .inr (.inl rfl), by omega, by omega, ?_, ?_⟩⟩, ?_, ?_⟩
    · rintro i (hi | rfl | ⟨j, e, hq, rfl⟩)
      · have := g4 i hi; omega
      · omega
      · have := (hOj _ e hq).2.1; omega
    · rw [put_ne g3, h3s]; rfl
    · rw [put_ne (by omega), h3i _ (by omega), h2r]
    · refine ⟨q, [], rfl, ⟨a, c, rfl, ?_⟩, rfl⟩
      by_cases hq : q = []
      · exact .inl hq
      · obtain ⟨j, e⟩ := hanone hq
        obtain ⟨j1, j2, j3⟩ := hOj j e hq
        refine .inr ⟨j, e, .inr (.inr ⟨j, e, hq, rfl⟩), by omega, by omega, by omega, ?_⟩
        rw [put_ne (by omega), h3i _ (by omega), h2i _ j2, h1i _ (by omega), j3]
    · rintro i (hi | rfl | ⟨j, e, hq, rfl⟩)
      · exact .inl hi
      · exact .inr (by omega)
      · exact .inr (hOj _ e hq).1
    · intro i hi hni _
      rw [put_ne (fun e => hni (by rw [e]; exact g2)), h3i _ (fun e => hni (by rw [e]; exact g1)), h2i _ hi, h1i _ (fun e => hni (by rw [e]; exact g2))]
  · have lr := g4 _ g7; have lr0 := hn _ g7
    rw [ld_at ((h1i _ g3).trans g6) (v := .slice (some (rb, 0)) acc.length rc) rfl]
    simp only [bind_some', asI_int, asB_bool, asStr_str, asP_ptr, asSl_sl, asAgg_1, asAgg_2, asAgg_3, asAgg_4, asTup_0, asTup_2, asTup_3, asTup_4, if_true', if_false', if_not_true', if_not_false', getD_0, getD_1, getD_2, getD_3]
    rw [src_lit1]
    simp only [bind_some', asI_int, asB_bool, asStr_str, asP_ptr, asSl_sl, asAgg_1, asAgg_2, asAgg_3, asAgg_4, asTup_0, asTup_2, asTup_3, asTup_4, if_true', if_false', if_not_true', if_not_false', getD_0, getD_1, getD_2, getD_3]
    have hvl := g11.len
    have hrb : (h1.put (nx + 3) (some ⟨[.slice a q.length c], 1, true⟩)) rb = some ⟨vs, 1, true⟩ := by rw [put_ne (by omega), h1i _ g9]; exact g10
    obtain ⟨st, rd', e1, e2, e3⟩ := push_at (q := vs) (j := nx + 4) rc (v := .slice a q.length c) (bytes := 24) [nx + 3] hrb (Nat.le_refl _) (List.take_length) (by rw [hvl]; exact growOk_of (by omega) (by omega)) (by omega)
    rw [hvl] at e1
    rw [e1]
    simp only [bind_some', asI_int, asB_bool, asStr_str, asP_ptr, asSl_sl, asAgg_1, asAgg_2, asAgg_3, asAgg_4, asTup_0, asTup_2, asTup_3, asTup_4, if_true', if_false', if_not_true', if_not_false', getD_0, getD_1, getD_2, getD_3]
    have h2i : ∀ i, i < nx → i ≠ rb → ((h1.put (nx + 3) (some ⟨[.slice a q.length c], 1, true⟩)).puts st) i = h1 i := fun i hi hr => by rw [e3 i (by omega) hr, put_ne (by omega)]
    generalize hh2 : AHeap.puts (h1.put (nx + 3) _) st = h2 at e2 e3 h2i ⊢
    rw [st_at ((h2i _ ls (fun e => g8 e.symm)).trans ((h1i _ g3).trans g6)) (n := 1) (v := .slice (some (nx + 4, 0)) (acc.length + 1) false) rfl (by simp [AV.cells]) rfl]
    generalize hh3 : AHeap.put h2 sb _ = h3
    have h3i : ∀ i, i ≠ sb → h3 i = h2 i := fun i hi => by rw [← hh3, put_ne hi]
    have h3s : h3 sb = some ⟨[.slice (some (nx + 4, 0)) (acc.length + 1) false], 1, true⟩ := by rw [← hh3, put_same]; simp [splice, AV.cells]
    have h3l : h3 l = some ⟨[], LB + 1, true⟩ := (h3i _ (fun e => g3 e.symm)).trans ((h2i _ ll (fun e => g9 e.symm)).trans h1l)
    rw [if_pos (isReady_at h3l)]
    refine ⟨fun i => O i ∨ i = nx + 4 ∨ ∃ j, a = some (j, 0) ∧ q ≠ [] ∧ i = j, _, _, rfl, by omega, ⟨.inl g1, .inl g2, g3, ?_, by simp, .inr ⟨nx + 4, false, vs ++ [.slice a q.length c], ?_, .inr (.inl rfl), by omega, by omega, ?_, ?_⟩⟩, ?_, ?_⟩
    · rintro i (hi | rfl | ⟨j, e, hq, rfl⟩)
      · have := g4 i hi; omega
      · omega
      · have := (hOj _ e hq).2.1; omega
    · rw [put_ne g3, h3s]; simp
    · rw [put_ne (by omega), h3i _ (by omega), e2]
    · refine HeldL.add ?_ (g11.mono fun j oj n1 n2 n3 => ⟨.inl oj, by have := g4 _ oj; omega, by rw [put_ne n2, h3i _ n1, h2i _ (g4 _ oj) n3, h1i _ n2]⟩)
      refine ⟨a, c, rfl, ?_⟩
      by_cases hq : q = []
      · exact .inl hq
      · obtain ⟨j, e⟩ := hanone hq
        obtain ⟨j1, j2, j3⟩ := hOj j e hq
        refine .inr ⟨j, e, .inr (.inr ⟨j, e, hq, rfl⟩), by omega, by omega, by omega, ?_⟩
        rw [put_ne (by omega), h3i _ (by omega), h2i _ j2 (by omega), h1i _ (by omega), j3]
    · rintro i (hi | rfl | ⟨j, e, hq, rfl⟩)
      · exact .inl hi
      · exact .inr (by omega)
      · exact .inr (hOj _ e hq).1
    · intro i hi hni _
      rw [put_ne (fun e => hni (by rw [e]; exact g2)), h3i _ (fun e => hni (by rw [e]; exact g1)), h2i _ hi (fun e => hni (by rw [e]; exact g7)), h1i _ (fun e => hni (by rw [e]; exact g2))]

theorem gath_spec (k n : Nat) (Y : YldF) (sb l : Nat) : YSpec (YX l (fun a3 h4 c5 => if Nat.beq a3.length 1 = true then
      ((asSl (a3.getD 0 .bad)).bind fun s6 => F43_R1 (callP Try.prog keepT k) Y n l (some (sb, 0)) s6.1 s6.2.1 s6.2.2 h4 c5) else none) Y) l (Gath sb l) where
  keeps acc O h nx h' nx' g hx hh := by
    obtain ⟨g1, g2, g3, g4, g5, g6⟩ := g
    refine ⟨g1, g2, g3, fun i hi => Nat.lt_of_lt_of_le (g4 i hi) hx, (hh _ g2).trans g5, ?_⟩
    rcases g6 with ⟨e, g6⟩ | ⟨rb, rc, vs, g6, g7, g8, g9, g10, g11⟩
    · exact .inl ⟨e, (hh _ g1).trans g6⟩
    · exact .inr ⟨rb, rc, vs, (hh _ g1).trans g6, g7, g8, g9, (hh _ g7).trans g10, g11.mono fun j oj n1 n2 n3 => ⟨oj, n3, hh j oj⟩⟩
  lt acc O h nx g := g.2.2.2.1
  step acc O h nx q a c n0 g o hn _ hacc hn0 := by
    have e : ∀ h nx, YX l (fun a3 h4 c5 => if Nat.beq a3.length 1 = true then ((asSl (a3.getD 0 .bad)).bind fun s6 => F43_R1 (callP Try.prog keepT k) Y n l (some (sb, 0)) s6.1 s6.2.1 s6.2.2 h4 c5) else none) Y l [.slice a q.length c] h nx = F43_R1 (callP Try.prog keepT k) Y n l (some (sb, 0)) a q.length c h nx := by
      intro h nx
      unfold YX
      rw [if_pos rfl]
      dsimp only
      rw [if_pos (by simp)]
      simp only [bind_some', asI_int, asB_bool, asStr_str, asP_ptr, asSl_sl, asAgg_1, asAgg_2, asAgg_3, asAgg_4, asTup_0, asTup_2, asTup_3, asTup_4, if_true', if_false', if_not_true', if_not_false', getD_0, getD_1, getD_2, getD_3]
    rw [e]
    exact gath_step Y g o hn hacc hn0

end Go.Proofs.Ytdjbhonncjcbjaa.T
