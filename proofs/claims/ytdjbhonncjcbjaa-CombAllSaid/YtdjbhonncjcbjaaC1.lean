/- The walk over all picks, with whatever takes them. -/
import Derived.Test.YtdjbhonncjcbjaaS11b
set_option linter.unusedVariables false
set_option linter.unusedSimpArgs false
namespace Go.Proofs.Ytdjbhonncjcbjaa.T
open Go Go.RowKit Go.Proofs

theorem asCal_fn (f : Nat) (us vs : List AV) : asCal (.fn f us vs) = some (.fn f, us, vs) := by simp [asCal]
theorem asCal_yld (l : Nat) : asCal (.yld l) = some (.yld l, [], []) := by simp [asCal]
theorem callC_fn (call : CallF) (Y : YldF) (f : Nat) : callC call Y (.fn f) = call f := by simp [callC]
theorem callC_yld (call : CallF) (Y : YldF) (l : Nat) : callC call Y (.yld l) = Y l := by simp [callC]
theorem nil_app (l : List AV) : [] ++ l = l := by simp

/-- One value behind a slice of which the block may hold more. -/
theorem push_at {h : AHeap} {id j : Nat} {cs q : List AV} (c : Bool) {v : AV} {bytes : Nat} (rd : List Nat) (hid : h id = some ⟨cs, 1, true⟩) (hl : q.length ≤ cs.length) (hq : cs.take q.length = q) (hg : growOk (q.length + 1) bytes = true) (hne : j ≠ id) :
    ∃ st rd', appD h (some (id, 0)) q.length c 1 bytes j (1, [v], rd) = some ⟨some (j, 0), q.length + 1, false, st, rd'⟩ ∧ (h.puts st) j = some ⟨q ++ [v], 1, true⟩ ∧ ∀ i, i ≠ j → i ≠ id → (h.puts st) i = h i := by
  unfold appD
  rw [if_neg (by simp), if_pos hg]
  simp only [hid, Option.bind_some]
  rw [if_pos (by simp; exact hl)]
  cases c with
  | true =>
    refine ⟨_, _, by rw [if_pos rfl], ?_, fun i h1 h2 => ?_⟩
    · simp [hq]
    · simp [put_ne h1]
  | false =>
    refine ⟨[(id, none), (j, some ⟨(cs.drop 0).take (q.length * 1) ++ [v], 1, true⟩)], id :: rd, by simp, ?_, fun i h1 h2 => ?_⟩
    · simp [hq]
    · simp [put_ne h1, put_ne h2]

/-! ### picks, in plain Lean -/
def picksL (f : Nat → List (List Nat)) : Nat → Nat → List (List Nat)
  | 0, _ => []
  | d + 1, x => (f (x + 1)).map (x :: ·) ++ picksL f d (x + 1)
def picks (n : Nat) : Nat → Nat → List (List Nat)
  | 0, _ => [[]]
  | r + 1, from_ => picksL (picks n r) (n - r - from_) from_

/-- What takes the picks: whatever it holds on to, and what a round does. -/
structure YSpec (Y : YldF) (l : Nat) (A : List (List Nat) → (Nat → Prop) → AHeap → Nat → Prop) : Prop where
  keeps : ∀ acc O h nx h' nx', A acc O h nx → nx ≤ nx' → (∀ i, O i → h' i = h i) → A acc O h' nx'
  lt : ∀ acc O h nx, A acc O h nx → ∀ i, O i → i < nx
  step : ∀ acc O h nx q a c n0, A acc O h nx → OwnSl h n0 nx a (List.length q) 1 (ints .i64 (natInts q)) → (∀ i, O i → i < n0) → q.length ≤ 100 → acc.length ≤ 1000 → n0 ≤ nx →
    ∃ O' h' nx', Y l [.slice a q.length c] h nx = some (.bool true, h', nx') ∧ nx ≤ nx' ∧ A (acc ++ [q]) O' h' nx' ∧ (∀ i, O' i → O i ∨ n0 ≤ i) ∧ ∀ i, i < nx → ¬ O i → i < n0 → h' i = h i

theorem clone_spec {f : Nat} (hf : 1 ≤ f) (Y : YldF) {h : AHeap} {nx nxs : Nat} {p : Nat × Nat} {n : Nat} (c : Bool) {vs : List AV} (hs : Sl h nxs (some p) n 1 vs) (hx : nxs ≤ nx) (hn : n ≤ 1000000) :
    ∃ a' c' h' nx', callP Try.prog keepT f Y 46 [.slice (some p) n c] h nx = some (.slice a' n c', h', nx') ∧ Ext h nx h' nx' ∧ OwnSl h' nx nx' a' n 1 vs := by
  obtain ⟨f, rfl⟩ : ∃ m, f = m + 1 := ⟨f - 1, by omega⟩
  have s1 : Sl (h.put (nx + 3) (some ⟨[], 1, true⟩)) (nx + 4) (some p) n 1 vs := hs.ext ⟨by omega, fun i hi => put_ne (by omega)⟩
  obtain ⟨rd, src⟩ := s1.src'
  have o1 : OwnSl (h.put (nx + 3) (some ⟨[], 1, true⟩)) nx (nx + 4) (some (nx + 3, 0)) 0 1 [] := ⟨by simp, .inr ⟨nx + 3, rfl, by omega, by omega, by simp⟩⟩
  obtain ⟨e, f1, f2, f3, f4, _⟩ := o1.appendS (c := true) (bytes := 8) (id := nx + 5) (k := n) (ws := vs) (rd := rd) hs.1 (growOk_of (by omega) (by omega)) (by omega) (by omega)
  rw [F46_eq, if_neg (by simp)]
  dsimp only
  rw [src]
  simp only [bind_some', asI_int, asB_bool, asStr_str, asP_ptr, asSl_sl, asAgg_1, asAgg_2, asAgg_3, asAgg_4, asTup_0, asTup_2, asTup_3, asTup_4, if_true', if_false', if_not_true', if_not_false', getD_0, getD_1, getD_2, getD_3]
  rw [f1]
  simp only [bind_some', asI_int, asB_bool, asStr_str, asP_ptr, asSl_sl, asAgg_1, asAgg_2, asAgg_3, asAgg_4, asTup_0, asTup_2, asTup_3, asTup_4, if_true', if_false', if_not_true', if_not_false', getD_0, getD_1, getD_2, getD_3]
  rw [f2, Nat.zero_add]
  rw [Nat.zero_add, List.nil_append] at f3
  exact ⟨_, _, _, _, rfl, ⟨by omega, fun i hi => (f4.2 i hi).trans (put_ne (by omega))⟩, f3.le (by omega)⟩

/-- The walk's boxes. -/
structure WB (h : AHeap) (nx p1 kb yb nb wb k n l : Nat) : Prop where
  hk : h kb = some ⟨[.int .i64 (k : Int)], 1, true⟩
  hn : h nb = some ⟨[.int .i64 (n : Int)], 1, true⟩
  hy : h yb = some ⟨[.yld l], 1, true⟩
  hw : h wb = some ⟨[.fn 45 [] [.ptr (some (p1, 0)), .ptr (some (kb, 0)), .ptr (some (yb, 0)), .ptr (some (nb, 0)), .ptr (some (wb, 0))]], 1, true⟩
  lk : kb < nx
  ln : nb < nx
  ly : yb < nx
  lw : wb < nx
  nk : kb ≠ p1
  nn : nb ≠ p1
  ny : yb ≠ p1
  nw : wb ≠ p1
structure PickAt (h : AHeap) (nx p1 kb yb nb wb id : Nat) (c : Bool) (q : List Nat) : Prop where
  hp : h p1 = some ⟨[.slice (some (id, 0)) q.length c], 1, true⟩
  hid : ∃ cs, h id = some ⟨cs, 1, true⟩ ∧ q.length ≤ cs.length ∧ cs.take q.length = ints .i64 (natInts q)
  lp : p1 < nx
  li : id < nx
  np : id ≠ p1
  nk : id ≠ kb
  ny : id ≠ yb
  nn : id ≠ nb
  nw : id ≠ wb
/-- None of these is the taker's. -/
structure Off (O : Nat → Prop) (p1 kb yb nb wb id : Nat) : Prop where
  p : ¬ O p1
  k : ¬ O kb
  y : ¬ O yb
  n : ¬ O nb
  w : ¬ O wb
  i : ¬ O id

theorem WB.keep {h h' : AHeap} {nx nx' p1 kb yb nb wb k n l : Nat} (w : WB h nx p1 kb yb nb wb k n l) (hx : nx ≤ nx') (h1 : h' kb = h kb) (h2 : h' nb = h nb) (h3 : h' yb = h yb) (h4 : h' wb = h wb) : WB h' nx' p1 kb yb nb wb k n l :=
  ⟨h1.trans w.hk, h2.trans w.hn, h3.trans w.hy, h4.trans w.hw, by have := w.lk; omega, by have := w.ln; omega, by have := w.ly; omega, by have := w.lw; omega, w.nk, w.nn, w.ny, w.nw⟩

theorem natInts_append (a b : List Nat) : natInts (a ++ b) = natInts a ++ natInts b := by simp [natInts]
theorem ints_append (k : IntKind) (a b : List Int) : ints k (a ++ b) = ints k a ++ ints k b := by simp [ints]
theorem ints_natInts_len (q : List Nat) : (ints .i64 (natInts q)).length = q.length := by simp [ints, natInts]

/-- What a walk does. -/
def WalkOk (Y : YldF) (p1 kb yb nb wb k n l : Nat) (A : List (List Nat) → (Nat → Prop) → AHeap → Nat → Prop) (acc : List (List Nat)) (O : Nat → Prop) (id : Nat) (h : AHeap) (nx : Nat) (q : List Nat) (out : List (List Nat)) (res : Option Res) : Prop :=
  ∃ O' id' c' h' nx', res = some (.bool true, h', nx') ∧ nx ≤ nx' ∧ A (acc ++ out.map (q ++ ·)) O' h' nx' ∧ PickAt h' nx' p1 kb yb nb wb id' c' q ∧ Off O' p1 kb yb nb wb id' ∧ (∀ i, O' i → O i ∨ nx ≤ i) ∧ (id' = id ∨ nx ≤ id') ∧
    ∀ i, i < nx → ¬ O i → i ≠ p1 → i ≠ id → h' i = h i

theorem walk_loop {Y : YldF} {l : Nat} {A : List (List Nat) → (Nat → Prop) → AHeap → Nat → Prop} {p1 kb yb nb wb k n : Nat} (hk : k ≤ 12) (hn : n ≤ 12) (f r : Nat)
    (ih : ∀ (q : List Nat) (fr : Nat) (acc : List (List Nat)) (O : Nat → Prop) (id : Nat) (c : Bool) (h : AHeap) (nx : Nat), q.length + r = k → fr ≤ n → acc.length + (picks n r fr).length ≤ 1000 → WB h nx p1 kb yb nb wb k n l → PickAt h nx p1 kb yb nb wb id c q → Off O p1 kb yb nb wb id → A acc O h nx →
      WalkOk Y p1 kb yb nb wb k n l A acc O id h nx q (picks n r fr) (callP Try.prog keepT f Y 45 [.int .i64 (fr : Int), .ptr (some (p1, 0)), .ptr (some (kb, 0)), .ptr (some (yb, 0)), .ptr (some (nb, 0)), .ptr (some (wb, 0))] h nx))
    (hA : YSpec Y l A) (q : List Nat) (hq : q.length + (r + 1) = k) :
    ∀ (d x lf' : Nat) (acc : List (List Nat)) (O : Nat → Prop) (id : Nat) (c : Bool) (h : AHeap) (nx : Nat), x + d = n - r ∨ (d = 0 ∧ n - r ≤ x ∧ x ≤ n) → d < lf' → acc.length + (picksL (picks n r) d x).length ≤ 1000 → WB h nx p1 kb yb nb wb k n l → PickAt h nx p1 kb yb nb wb id c q → Off O p1 kb yb nb wb id → A acc O h nx →
      WalkOk Y p1 kb yb nb wb k n l A acc O id h nx q (picksL (picks n r) d x) (F45_L1 (callP Try.prog keepT f) Y f lf' (some (p1, 0)) (some (kb, 0)) (some (nb, 0)) (some (wb, 0)) (x : Int) h nx) := by
  intro d
  induction d with
  | zero =>
    intro x lf' acc O id c h nx hx hlf hacc w p o a
    obtain ⟨m, rfl⟩ : ∃ m, lf' = m + 1 := ⟨lf' - 1, by omega⟩
    rw [F45_L1_eq]
    dsimp only [Option.bind_some]
    rw [ld_at w.hn (v := .int .i64 (n : Int)) rfl]
    simp only [bind_some', asI_int, asB_bool, asStr_str, asP_ptr, asSl_sl, asAgg_1, asAgg_2, asAgg_3, asAgg_4, asTup_0, asTup_2, asTup_3, asTup_4, if_true', if_false', if_not_true', if_not_false', getD_0, getD_1, getD_2, getD_3]
    rw [ld_at w.hk (v := .int .i64 (k : Int)) rfl]
    simp only [bind_some', asI_int, asB_bool, asStr_str, asP_ptr, asSl_sl, asAgg_1, asAgg_2, asAgg_3, asAgg_4, asTup_0, asTup_2, asTup_3, asTup_4, if_true', if_false', if_not_true', if_not_false', getD_0, getD_1, getD_2, getD_3]
    rw [ld_at p.hp (v := .slice (some (id, 0)) q.length c) rfl]
    simp only [bind_some', asI_int, asB_bool, asStr_str, asP_ptr, asSl_sl, asAgg_1, asAgg_2, asAgg_3, asAgg_4, asTup_0, asTup_2, asTup_3, asTup_4, if_true', if_false', if_not_true', if_not_false', getD_0, getD_1, getD_2, getD_3]
    rw [wA (x := (k : Int) - ((q.length : Nat) : Int)) (by omega) (by omega), wA (by omega) (by omega), if_neg (by simp; omega)]
    refine ⟨O, id, c, h, nx + 9, rfl, by omega, ?_, ⟨p.hp, p.hid, by have := p.lp; omega, by have := p.li; omega, p.np, p.nk, p.ny, p.nn, p.nw⟩, o, fun i hi => .inl hi, .inl rfl, fun _ _ _ _ _ => rfl⟩
    simp only [picksL, List.map_nil, List.append_nil]
    exact hA.keeps _ _ _ _ _ _ a (by omega) (fun _ _ => rfl)
  | succ d ihd =>
    intro x lf' acc O id c h nx hx hlf hacc w p o a
    have hx' : x + (d + 1) = n - r := by rcases hx with hx | hx; exact hx; omega
    obtain ⟨m, rfl⟩ : ∃ m, lf' = m + 1 := ⟨lf' - 1, by omega⟩
    rw [F45_L1_eq]
    dsimp only [Option.bind_some]
    rw [ld_at w.hn (v := .int .i64 (n : Int)) rfl]
    simp only [bind_some', asI_int, asB_bool, asStr_str, asP_ptr, asSl_sl, asAgg_1, asAgg_2, asAgg_3, asAgg_4, asTup_0, asTup_2, asTup_3, asTup_4, if_true', if_false', if_not_true', if_not_false', getD_0, getD_1, getD_2, getD_3]
    rw [ld_at w.hk (v := .int .i64 (k : Int)) rfl]
    simp only [bind_some', asI_int, asB_bool, asStr_str, asP_ptr, asSl_sl, asAgg_1, asAgg_2, asAgg_3, asAgg_4, asTup_0, asTup_2, asTup_3, asTup_4, if_true', if_false', if_not_true', if_not_false', getD_0, getD_1, getD_2, getD_3]
    rw [ld_at p.hp (v := .slice (some (id, 0)) q.length c) rfl]
    simp only [bind_some', asI_int, asB_bool, asStr_str, asP_ptr, asSl_sl, asAgg_1, asAgg_2, asAgg_3, asAgg_4, asTup_0, asTup_2, asTup_3, asTup_4, if_true', if_false', if_not_true', if_not_false', getD_0, getD_1, getD_2, getD_3]
    rw [wA (x := (k : Int) - ((q.length : Nat) : Int)) (by omega) (by omega), wA (by omega) (by omega), if_pos (by simp; omega)]
    rw [ld_at p.hp (v := .slice (some (id, 0)) q.length c) rfl]
    simp only [bind_some', asI_int, asB_bool, asStr_str, asP_ptr, asSl_sl, asAgg_1, asAgg_2, asAgg_3, asAgg_4, asTup_0, asTup_2, asTup_3, asTup_4, if_true', if_false', if_not_true', if_not_false', getD_0, getD_1, getD_2, getD_3]
    rw [src_lit1]
    simp only [bind_some', asI_int, asB_bool, asStr_str, asP_ptr, asSl_sl, asAgg_1, asAgg_2, asAgg_3, asAgg_4, asTup_0, asTup_2, asTup_3, asTup_4, if_true', if_false', if_not_true', if_not_false', getD_0, getD_1, getD_2, getD_3]
    obtain ⟨cs, hc1, hc2, hc3⟩ := p.hid
    have li := p.li; have lp := p.lp; have lk := w.lk; have ln := w.ln; have ly := w.ly; have lw := w.lw
    have hc1' : (h.put (nx + 10) (some ⟨[.int .i64 (x : Int)], 1, true⟩)) id = some ⟨cs, 1, true⟩ := (put_ne (by omega)).trans hc1
    have hlen := ints_natInts_len q
    obtain ⟨st, rd', e1, e2, e3⟩ := push_at (q := ints .i64 (natInts q)) (j := nx + 11) c (v := .int .i64 (x : Int)) (bytes := 8) [nx + 10] hc1' (by rw [hlen]; exact hc2) (by rw [hlen]; exact hc3) (by rw [hlen]; exact growOk_of (by omega) (by omega)) (by omega)
    rw [hlen] at e1
    rw [e1]
    simp only [bind_some', asI_int, asB_bool, asStr_str, asP_ptr, asSl_sl, asAgg_1, asAgg_2, asAgg_3, asAgg_4, asTup_0, asTup_2, asTup_3, asTup_4, if_true', if_false', if_not_true', if_not_false', getD_0, getD_1, getD_2, getD_3]
    have hp1 : ((h.put (nx + 10) (some ⟨[.int .i64 (x : Int)], 1, true⟩)).puts st) p1 = some ⟨[.slice (some (id, 0)) q.length c], 1, true⟩ := (e3 p1 (by omega) (fun e => p.np e.symm)).trans ((put_ne (by omega)).trans p.hp)
    rw [st_at hp1 (n := 1) (v := .slice (some (nx + 11, 0)) (q.length + 1) false) rfl (by simp [AV.cells]) rfl]
    generalize hh1 : AHeap.put (AHeap.puts (h.put (nx + 10) (some ⟨[.int .i64 (x : Int)], 1, true⟩)) st) p1 _ = h1
    have hh1i : ∀ i, i < nx → i ≠ p1 → i ≠ id → h1 i = h i := by
      intro i hi h1' h2'
      rw [← hh1, put_ne h1', e3 i (by omega) h2', put_ne (by omega)]
    have hh1p : h1 p1 = some ⟨[.slice (some (nx + 11, 0)) (q.length + 1) false], 1, true⟩ := by
      rw [← hh1, put_same]; simp [splice, AV.cells]
    have hh1j : h1 (nx + 11) = some ⟨ints .i64 (natInts q) ++ [.int .i64 (x : Int)], 1, true⟩ := by
      rw [← hh1, put_ne (by omega), e2]
    have w1 : WB h1 (nx + 18) p1 kb yb nb wb k n l := w.keep (by omega) (hh1i _ lk w.nk (fun e => p.nk e.symm)) (hh1i _ ln w.nn (fun e => p.nn e.symm)) (hh1i _ ly w.ny (fun e => p.ny e.symm)) (hh1i _ lw w.nw (fun e => p.nw e.symm))
    rw [ld_at w1.hw (v := .fn 45 [] _) rfl]
    rw [asCal_fn]
    simp only [bind_some', asI_int, asB_bool, asStr_str, asP_ptr, asSl_sl, asAgg_1, asAgg_2, asAgg_3, asAgg_4, asTup_0, asTup_2, asTup_3, asTup_4, if_true', if_false', if_not_true', if_not_false', getD_0, getD_1, getD_2, getD_3]
    rw [callC_fn, nil_app, wA (x := (x : Int) + 1) (by omega) (by omega)]
    have hxi : (x : Int) + 1 = ((x + 1 : Nat) : Int) := by omega
    rw [hxi]
    have pk1 : PickAt h1 (nx + 18) p1 kb yb nb wb (nx + 11) false (q ++ [x]) :=
      ⟨by rw [hh1p]; simp, ⟨_, hh1j, by simp [ints, natInts], by
        rw [natInts_append, ints_append, List.take_of_length_le (by simp [ints, natInts])]; rfl⟩, by omega, by omega, by omega, by omega, by omega, by omega, by omega⟩
    have hO := hA.lt _ _ _ _ a
    have o1 : Off O p1 kb yb nb wb (nx + 11) := ⟨o.p, o.k, o.y, o.n, o.w, fun e => by have := hO _ e; omega⟩
    have a1 : A acc O h1 (nx + 18) := hA.keeps _ _ _ _ _ _ a (by omega) (fun i hi => hh1i i (hO i hi) (fun e => o.p (e ▸ hi)) (fun e => o.i (e ▸ hi)))
    have hout : picksL (picks n r) (d + 1) x = (picks n r (x + 1)).map (x :: ·) ++ picksL (picks n r) d (x + 1) := rfl
    have hacc' : acc.length + ((picks n r (x + 1)).length + (picksL (picks n r) d (x + 1)).length) ≤ 1000 := by
      rw [hout, List.length_append, List.length_map] at hacc; exact hacc
    obtain ⟨O2, id2, c2, h2, n2, g1, g2, g3, g4, g5, g6, g7, g8⟩ := ih (q ++ [x]) (x + 1) acc O (nx + 11) false h1 (nx + 18) (by simp; omega) (by omega) (by omega) w1 pk1 o1 a1
    simp only [List.nil_append, List.singleton_append]
    rw [g1]
    simp only [bind_some', asI_int, asB_bool, asStr_str, asP_ptr, asSl_sl, asAgg_1, asAgg_2, asAgg_3, asAgg_4, asTup_0, asTup_2, asTup_3, asTup_4, if_true', if_false', if_not_true', if_not_false', getD_0, getD_1, getD_2, getD_3]
    rw [ld_at g4.hp (v := .slice (some (id2, 0)) (q ++ [x]).length c2) rfl]
    simp only [bind_some', asI_int, asB_bool, asStr_str, asP_ptr, asSl_sl, asAgg_1, asAgg_2, asAgg_3, asAgg_4, asTup_0, asTup_2, asTup_3, asTup_4, if_true', if_false', if_not_true', if_not_false', getD_0, getD_1, getD_2, getD_3]
    rw [ld_at g4.hp (v := .slice (some (id2, 0)) (q ++ [x]).length c2) rfl]
    simp only [bind_some', asI_int, asB_bool, asStr_str, asP_ptr, asSl_sl, asAgg_1, asAgg_2, asAgg_3, asAgg_4, asTup_0, asTup_2, asTup_3, asTup_4, if_true', if_false', if_not_true', if_not_false', getD_0, getD_1, getD_2, getD_3]
    obtain ⟨cs2, hd1, hd2, hd3⟩ := g4.hid
    have s2 : Sl h2 n2 (some (id2, 0)) (q ++ [x]).length 1 (ints .i64 (natInts (q ++ [x]))) := ⟨by simp [ints, natInts], fun j hj => ⟨(id2, 0), _, rfl, g4.li, hd1, rfl, by simp at hd2 ⊢; omega, fun u hu => by
      rw [Nat.zero_add, ← hd3, List.getElem?_take, if_pos (by omega)]⟩⟩
    have hlx : (q ++ [x]).length = q.length + 1 := by simp
    have hw1 : wrapA .i64 (((q ++ [x]).length : Nat) - 1) = ((q.length : Nat) : Int) := by rw [wA (by omega) (by omega)]; omega
    obtain ⟨ct1, ct2, _⟩ := s2.cut c2 (lo := 0) (hi := q.length) (by omega) (by omega) (l := none) (r := some (.int .i64 (q.length : Int))) rfl (bound_some (by omega))
    rw [hw1, ct1]
    simp only [bind_some', asI_int, asB_bool, asStr_str, asP_ptr, asSl_sl, asAgg_1, asAgg_2, asAgg_3, asAgg_4, asTup_0, asTup_2, asTup_3, asTup_4, if_true', if_false', if_not_true', if_not_false', getD_0, getD_1, getD_2, getD_3]
    have hsh : shiftAddr (some (id2, 0)) (0 * 1) = some (id2, 0) := rfl
    rw [hsh]
    rw [st_at g4.hp (n := 1) (v := .slice (some (id2, 0)) (q.length - 0) (c2 && q.length == (q ++ [x]).length)) rfl (by simp [AV.cells]) rfl]
    generalize hh3 : AHeap.put h2 p1 _ = h3
    have hh3i : ∀ i, i ≠ p1 → h3 i = h2 i := fun i hi => by rw [← hh3, put_ne hi]
    have hh3p : h3 p1 = some ⟨[.slice (some (id2, 0)) q.length (c2 && q.length == (q ++ [x]).length)], 1, true⟩ := by rw [← hh3, put_same]; simp [splice, AV.cells]
    have pk3 : PickAt h3 (n2 + 9) p1 kb yb nb wb id2 (c2 && q.length == (q ++ [x]).length) q :=
      ⟨hh3p, ⟨cs2, (hh3i _ g4.np).trans hd1, by omega, by
        have := congrArg (List.take q.length) hd3
        rw [List.take_take, Nat.min_eq_left (by omega)] at this
        rw [this, natInts_append, ints_append, List.take_left' (ints_natInts_len q)]⟩, by omega, by have := g4.li; omega, g4.np, g4.nk, g4.ny, g4.nn, g4.nw⟩
    have hfr : ∀ i, i < nx → ¬ O i → i ≠ p1 → i ≠ id → h2 i = h i := fun i hi h1' h2' h3' => (g8 i (by omega) h1' h2' (by omega)).trans (hh1i i hi h2' h3')
    have w3 : WB h3 (n2 + 9) p1 kb yb nb wb k n l := w.keep (by omega) ((hh3i _ w.nk).trans (hfr _ lk o.k w.nk (fun e => p.nk e.symm))) ((hh3i _ w.nn).trans (hfr _ ln o.n w.nn (fun e => p.nn e.symm))) ((hh3i _ w.ny).trans (hfr _ ly o.y w.ny (fun e => p.ny e.symm))) ((hh3i _ w.nw).trans (hfr _ lw o.w w.nw (fun e => p.nw e.symm)))
    have a3 : A (acc ++ (picks n r (x + 1)).map (q ++ [x] ++ ·)) O2 h3 (n2 + 9) := hA.keeps _ _ _ _ _ _ g3 (by omega) (fun i hi => hh3i i (fun e => g5.p (e ▸ hi)))
    obtain ⟨O4, id4, c4, h4, n4, k1, k2, k3, k4, k5, k6, k7, k8⟩ := ihd (x + 1) m _ O2 id2 _ h3 (n2 + 9) (by omega) (by omega) (by rw [List.length_append, List.length_map]; omega) w3 pk3 g5 a3
    refine ⟨O4, id4, c4, h4, n4, k1, by omega, ?_, k4, k5, fun i hi => ?_, ?_, fun i hi h1' h2' h3' => ?_⟩
    · rw [hout, List.map_append, ← List.append_assoc, List.map_map]
      have : (fun y => q ++ y) ∘ (fun y => x :: y) = fun y => q ++ [x] ++ y := by funext y; simp
      rw [this]; exact k3
    · rcases k6 i hi with hi | hi
      · rcases g6 i hi with hi | hi
        · exact .inl hi
        · exact .inr (by omega)
      · exact .inr (by omega)
    · rcases k7 with rfl | e
      · rcases g7 with rfl | e
        · exact .inr (by omega)
        · exact .inr (by omega)
      · exact .inr (by omega)
    · rw [k8 i (by omega) (fun e => by rcases g6 i e with e | e; exact h1' e; omega) h2' (by rcases g7 with rfl | e <;> omega), hh3i i h2', hfr i hi h1' h2' h3']

theorem walk_spec {Y : YldF} {l : Nat} {A : List (List Nat) → (Nat → Prop) → AHeap → Nat → Prop} {p1 kb yb nb wb k n : Nat} (hk : k ≤ 12) (hn : n ≤ 12) (hA : YSpec Y l A) :
    ∀ (r f : Nat) (q : List Nat) (fr : Nat) (acc : List (List Nat)) (O : Nat → Prop) (id : Nat) (c : Bool) (h : AHeap) (nx : Nat), r + 16 ≤ f → q.length + r = k → fr ≤ n → acc.length + (picks n r fr).length ≤ 1000 → WB h nx p1 kb yb nb wb k n l → PickAt h nx p1 kb yb nb wb id c q → Off O p1 kb yb nb wb id → A acc O h nx →
      WalkOk Y p1 kb yb nb wb k n l A acc O id h nx q (picks n r fr) (callP Try.prog keepT f Y 45 [.int .i64 (fr : Int), .ptr (some (p1, 0)), .ptr (some (kb, 0)), .ptr (some (yb, 0)), .ptr (some (nb, 0)), .ptr (some (wb, 0))] h nx) := by
  intro r
  induction r with
  | zero =>
    intro f q fr acc O id c h nx hf hq hfr hacc w p o a
    obtain ⟨f, rfl⟩ : ∃ m, f = m + 1 := ⟨f - 1, by omega⟩
    rw [F45_eq]
    dsimp only [Option.bind_some]
    rw [ld_at p.hp (v := .slice (some (id, 0)) q.length c) rfl]
    simp only [bind_some', asI_int, asB_bool, asStr_str, asP_ptr, asSl_sl, asAgg_1, asAgg_2, asAgg_3, asAgg_4, asTup_0, asTup_2, asTup_3, asTup_4, if_true', if_false', if_not_true', if_not_false', getD_0, getD_1, getD_2, getD_3]
    rw [ld_at w.hk (v := .int .i64 (k : Int)) rfl]
    simp only [bind_some', asI_int, asB_bool, asStr_str, asP_ptr, asSl_sl, asAgg_1, asAgg_2, asAgg_3, asAgg_4, asTup_0, asTup_2, asTup_3, asTup_4, if_true', if_false', if_not_true', if_not_false', getD_0, getD_1, getD_2, getD_3]
    rw [if_pos (by simp; omega), ld_at w.hy (v := .yld l) rfl, ld_at p.hp (v := .slice (some (id, 0)) q.length c) rfl]
    simp only [bind_some', asI_int, asB_bool, asStr_str, asP_ptr, asSl_sl, asAgg_1, asAgg_2, asAgg_3, asAgg_4, asTup_0, asTup_2, asTup_3, asTup_4, if_true', if_false', if_not_true', if_not_false', getD_0, getD_1, getD_2, getD_3]
    obtain ⟨cs, hc1, hc2, hc3⟩ := p.hid
    have li := p.li; have lp := p.lp
    have s1 : Sl h nx (some (id, 0)) q.length 1 (ints .i64 (natInts q)) := ⟨by simp [ints, natInts], fun j hj => ⟨(id, 0), _, rfl, li, hc1, rfl, by simp; omega, fun u hu => by
      rw [Nat.zero_add, ← hc3, List.getElem?_take, if_pos (by omega)]⟩⟩
    obtain ⟨a', c', h', n', e1, e2, e3⟩ := clone_spec (f := f) (by omega) Y c s1 (nx := nx + 10) (by omega) (by omega)
    rw [e1]
    simp only [bind_some', asI_int, asB_bool, asStr_str, asP_ptr, asSl_sl, asAgg_1, asAgg_2, asAgg_3, asAgg_4, asTup_0, asTup_2, asTup_3, asTup_4, if_true', if_false', if_not_true', if_not_false', getD_0, getD_1, getD_2, getD_3]
    rw [asCal_yld]
    simp only [bind_some', asI_int, asB_bool, asStr_str, asP_ptr, asSl_sl, asAgg_1, asAgg_2, asAgg_3, asAgg_4, asTup_0, asTup_2, asTup_3, asTup_4, if_true', if_false', if_not_true', if_not_false', getD_0, getD_1, getD_2, getD_3]
    rw [callC_yld]
    have hO := hA.lt _ _ _ _ a
    have a1 : A acc O h' n' := hA.keeps _ _ _ _ _ _ a (by have := e2.1; omega) (fun i hi => e2.2 i (by have := hO i hi; omega))
    simp only [picks, List.length_singleton] at hacc
    obtain ⟨O2, h2, n2, g1, g2, g3, g4, g5⟩ := hA.step acc O h' n' q a' c' (nx + 10) a1 e3 (fun i hi => by have := hO i hi; omega) (by omega) (by omega) (by have := e2.1; omega)
    simp only [List.nil_append, List.append_nil]
    rw [g1]
    simp only [bind_some', asI_int, asB_bool, asStr_str, asP_ptr, asSl_sl, asAgg_1, asAgg_2, asAgg_3, asAgg_4, asTup_0, asTup_2, asTup_3, asTup_4, if_true', if_false', if_not_true', if_not_false', getD_0, getD_1, getD_2, getD_3]
    rw [ifKept_pos (by
      refine ⟨fun i hi => ?_, trivial⟩
      simp only [List.mem_singleton] at hi; subst hi
      exact e2.2 _ (by have := w.ly; omega))]
    have hn' := e2.1
    have hf2 : ∀ i, i < nx → ¬ O i → h2 i = h i := fun i hi h1 => (g5 i (by omega) h1 (by omega)).trans (e2.2 i (by omega))
    refine ⟨O2, id, c, h2, n2, rfl, by omega, by simpa [picks] using g3, ⟨(hf2 _ lp o.p).trans p.hp, ⟨cs, (hf2 _ li o.i).trans hc1, hc2, hc3⟩, by omega, by omega, p.np, p.nk, p.ny, p.nn, p.nw⟩, ?_, fun i hi => by rcases g4 i hi with e | e; exact .inl e; exact .inr (by omega), .inl rfl, fun i hi h1 _ _ => hf2 i hi h1⟩
    have off : ∀ i, i < nx → ¬ O i → ¬ O2 i := fun i hi h1 e => by rcases g4 i e with e | e; exact h1 e; omega
    exact ⟨off _ lp o.p, off _ w.lk o.k, off _ w.ly o.y, off _ w.ln o.n, off _ w.lw o.w, off _ li o.i⟩
  | succ r ihr =>
    intro f q fr acc O id c h nx hf hq hfr hacc w p o a
    obtain ⟨f, rfl⟩ : ∃ m, f = m + 1 := ⟨f - 1, by omega⟩
    rw [F45_eq]
    dsimp only [Option.bind_some]
    rw [ld_at p.hp (v := .slice (some (id, 0)) q.length c) rfl]
    simp only [bind_some', asI_int, asB_bool, asStr_str, asP_ptr, asSl_sl, asAgg_1, asAgg_2, asAgg_3, asAgg_4, asTup_0, asTup_2, asTup_3, asTup_4, if_true', if_false', if_not_true', if_not_false', getD_0, getD_1, getD_2, getD_3]
    rw [ld_at w.hk (v := .int .i64 (k : Int)) rfl]
    simp only [bind_some', asI_int, asB_bool, asStr_str, asP_ptr, asSl_sl, asAgg_1, asAgg_2, asAgg_3, asAgg_4, asTup_0, asTup_2, asTup_3, asTup_4, if_true', if_false', if_not_true', if_not_false', getD_0, getD_1, getD_2, getD_3]
    rw [if_neg (by simp; omega)]
    have lp := p.lp; have li := p.li
    obtain ⟨O', id', c', h', nx', g1, g2, g3⟩ := walk_loop hk hn f r (fun q fr acc O id c h nx h1 h2 h3 w p o a => ihr f q fr acc O id c h nx (by omega) h1 h2 h3 w p o a) hA q hq (n - r - fr) fr f acc O id c h (nx + 7)
      (by omega) (by omega) hacc (w.keep (by omega) rfl rfl rfl rfl) ⟨p.hp, p.hid, by omega, by omega, p.np, p.nk, p.ny, p.nn, p.nw⟩ o (hA.keeps _ _ _ _ _ _ a (by omega) (fun _ _ => rfl))
    obtain ⟨g3, g4, g5, g6, g7, g8⟩ := g3
    exact ⟨O', id', c', h', nx', g1, by omega, g3, g4, g5, fun i hi => by rcases g6 i hi with e | e; exact .inl e; exact .inr (by omega), by rcases g7 with e | e; exact .inl e; exact .inr (by omega), fun i hi h1 h2 h3 => g8 i (by omega) h1 h2 h3⟩

end Go.Proofs.Ytdjbhonncjcbjaa.T
