import Derived.Test.YtdjbhonncjcbjaaF6
set_option linter.unusedVariables false
set_option linter.unusedSimpArgs false
namespace Go.Proofs.Ytdjbhonncjcbjaa.T
open Go Go.RowKit Go.Proofs

theorem ifApart_pos {l : List (List Nat × List Nat)} {K : Option (AV × AHeap × Nat)} (h : AllApart l) : ifApart l K = K := by
  unfold ifApart; split
  · rfl
  · rw [if_pos h]

theorem OwnSl.append_ids {h : AHeap} {nx0 nx : Nat} {a : Option (Nat × Nat)} {n es : Nat} {vs : List AV} (s : OwnSl h nx0 nx a n es vs) {c : Bool} {bytes id : Nat} {q : Nat × List AV × List Nat} (h0 : nx0 ≤ id) {e : AE} (he : appD h a n c es bytes id q = some e) : ∀ x ∈ idsOf e.sets, nx0 ≤ x := by
  unfold appD at he
  split at he
  · obtain rfl := Option.some.inj he; intro x hx; cases hx
  · split at he
    · rcases s.2 with ⟨rfl, rfl⟩ | ⟨i, rfl, hi0, hi1, e0⟩
      · simp only at he
        obtain rfl := Option.some.inj he
        intro x hx; simp [idsOf] at hx; omega
      · simp only [e0, Option.bind_some] at he
        split at he
        · split at he
          · obtain rfl := Option.some.inj he
            intro x hx; simp [idsOf] at hx; omega
          · split at he
            · obtain rfl := Option.some.inj he
              intro x hx; simp [idsOf] at hx; omega
            · cases he
        · cases he
    · cases he

/-- An append of a slice's cells to a slice of one's own. -/
theorem OwnSl.appendS {h : AHeap} {nx0 nx : Nat} {a : Option (Nat × Nat)} {n es : Nat} {vs : List AV} (s : OwnSl h nx0 nx a n es vs) (c : Bool) {bytes id k : Nat} {ws : List AV} {rd : List Nat} (hw : ws.length = k * es) (hg : growOk (n + k) bytes = true) (h0 : nx0 ≤ nx) (hid : nx ≤ id) :
    ∃ e, appD h a n c es bytes id (k, ws, rd) = some e ∧ e.n = n + k ∧ OwnSl (h.puts e.sets) nx0 (id + 1) e.a (n + k) es (vs ++ ws) ∧ Ext h nx0 (h.puts e.sets) (id + 1) ∧ ∀ x ∈ idsOf e.sets, nx0 ≤ x := by
  by_cases hk : k = 0
  · subst hk
    have : ws = [] := by simpa using hw
    subst this
    refine ⟨⟨a, n, c, [], rd⟩, by simp [appD], rfl, ?_, ⟨by omega, fun _ _ => rfl⟩, fun x hx => by cases hx⟩
    rw [List.append_nil, Nat.add_zero]
    exact s.le (by omega)
  · obtain ⟨e, f1, f2, f3, f4⟩ := s.append (c := c) (bytes := bytes) (id := id) (k := k) (ws := ws) (rd := rd) hk hw hg h0 hid
    exact ⟨e, f1, f2, f3, f4, s.append_ids (by omega) f1⟩

theorem fold_diff (q : List Int) : ∀ u v : Sm, u.a = v.a → (u.fold q).a = (v.fold q).a ∧ (u.fold q).b - (v.fold q).b = u.b - v.b := by
  induction q with
  | nil => intro u v h; exact ⟨h, rfl⟩
  | cons w q ih =>
    intro u v h
    obtain ⟨i1, i2⟩ := ih (u.step w) (v.step w) (by simp [Sm.step, h])
    refine ⟨i1, ?_⟩
    show ((u.step w).fold q).b - ((v.step w).fold q).b = _
    rw [i2]; simp [Sm.step, h]; omega
theorem fold_append (s : Sm) (p q : List Int) : s.fold (p ++ q) = (s.fold p).fold q := by simp [Sm.fold]

/-- Two neighbours that changed places: the first sum stays, the second tells. -/
theorem swapped {p q : List Int} {i : Nat} {a b c d a' b' c' d' : Int} (hp : p.length = 4 * i) (hb : Bytes [a, b, c, d, a', b', c', d']) :
    let X := p ++ ([a, b, c, d] ++ ([a', b', c', d'] ++ q)); let Y := p ++ ([a', b', c', d'] ++ ([a, b, c, d] ++ q))
    (Sm.zero.fold (wordsOf X)).a = (Sm.zero.fold (wordsOf Y)).a ∧ smEq (Sm.zero.fold (wordsOf X)) (Sm.zero.fold (wordsOf Y)) = decide (X = Y) := by
  intro X Y
  have eX : wordsOf X = wordsOf p ++ (wordOf a b c d :: wordOf a' b' c' d' :: wordsOf q) := wordsOf_append i p _ hp
  have eY : wordsOf Y = wordsOf p ++ (wordOf a' b' c' d' :: wordOf a b c d :: wordsOf q) := wordsOf_append i p _ hp
  have fX : Sm.zero.fold (wordsOf X) = (((Sm.zero.fold (wordsOf p)).step (wordOf a b c d)).step (wordOf a' b' c' d')).fold (wordsOf q) := by rw [eX, fold_append]; rfl
  have fY : Sm.zero.fold (wordsOf Y) = (((Sm.zero.fold (wordsOf p)).step (wordOf a' b' c' d')).step (wordOf a b c d)).fold (wordsOf q) := by rw [eY, fold_append]; rfl
  obtain ⟨d1, d2⟩ := fold_diff (wordsOf q) (((Sm.zero.fold (wordsOf p)).step (wordOf a b c d)).step (wordOf a' b' c' d')) (((Sm.zero.fold (wordsOf p)).step (wordOf a' b' c' d')).step (wordOf a b c d)) (by simp [Sm.step]; omega)
  rw [← fX, ← fY] at d1 d2
  refine ⟨d1, ?_⟩
  have r0 := hb a (by simp)
  have r1 := hb b (by simp)
  have r2 := hb c (by simp)
  have r3 := hb d (by simp)
  have r4 := hb a' (by simp)
  have r5 := hb b' (by simp)
  have r6 := hb c' (by simp)
  have r7 := hb d' (by simp)
  by_cases hXY : X = Y
  · rw [decide_eq_true hXY, hXY]; simp [smEq]
  · rw [decide_eq_false hXY]
    have : ¬ wrapA .i64 (Sm.zero.fold (wordsOf X)).b = wrapA .i64 (Sm.zero.fold (wordsOf Y)).b := by
      intro h
      have hd : (Sm.zero.fold (wordsOf X)).b - (Sm.zero.fold (wordsOf Y)).b = wordOf a b c d - wordOf a' b' c' d' := by rw [d2]; simp [Sm.step]; omega
      have e := wrap_inj h (by rw [hd]; unfold wordOf; omega) (by rw [hd]; unfold wordOf; omega)
      have e2 : wordOf a b c d = wordOf a' b' c' d' := by omega
      unfold wordOf at e2
      have : a = a' ∧ b = b' ∧ c = c' ∧ d = d' := by omega
      obtain ⟨rfl, rfl, rfl, rfl⟩ := this
      exact hXY rfl
    simp [smEq, this]

theorem piece {α : Type} {Z U V W : List α} {i n : Nat} (h : Z = U ++ (V ++ W)) (hi : i = U.length) (hn : n = V.length) : (Z.drop i).take n = V := by
  subst h; subst hi; subst hn; simp

theorem FletSwapped_run (h : AHeap) (nx : Nat) (l : List Int) (hl : l.length * 1 ≤ 140737488351232) (hw : ∀ n ∈ l, (Lit.int .u8 n).wf = true) (a : Option (Nat × Nat)) (hs : Sl h nx a l.length 1 (l.map (AV.int .u8)))
    (x1 : Int) (_ : (Lit.int .i64 x1).wf = true) :
    ∃ f h' nx', callP Try.prog keepT f 7 [.slice a l.length false, .int .i64 x1] h nx = some (.bool true, h', nx') := by
  refine ⟨2000 + 1, ?_⟩
  obtain ⟨k, hk⟩ : ∃ k, k = 2000 := ⟨_, rfl⟩
  rw [← hk]
  obtain ⟨xa, xc, h1, n1, e1, o1, y1⟩ := words_spec (k := k) (by omega) l 400 (by omega) (by omega) false (h := h) (nx := nx + 4) (hs.ext ⟨by omega, fun _ _ => rfl⟩)
  rw [F7_eq]
  have e1' : callP Try.prog keepT k 19 [.slice a l.length false, .int .i64 400] h (nx + 4) = _ := e1
  rw [e1']
  simp only [bind_some', asI_int, asB_bool, asStr_str, asP_ptr, asSl_sl, asAgg_1, asAgg_2, asAgg_3, asAgg_4, asTup_0, asTup_2, asTup_3, asTup_4, if_true', if_false', if_not_true', if_not_false', getD_0, getD_1, getD_2, getD_3]
  have hwl : wlen l.length 400 ≤ l.length ∧ wlen l.length 400 ≤ 400 ∧ wlen l.length 400 % 4 = 0 := by unfold wlen; omega
  have bX : Bytes (l.take (wlen l.length 400)) := fun x hx => wf_byte (hw x (List.mem_of_mem_take hx))
  obtain ⟨m, hm⟩ : ∃ m, wlen l.length 400 = 4 * m := ⟨wlen l.length 400 / 4, by omega⟩
  have hm100 : m ≤ 100 := by omega
  have hXl : (l.take (wlen l.length 400)).length = 4 * m := by rw [List.length_take]; omega
  generalize l.take (wlen l.length 400) = X at *
  rw [hm] at *
  have yy1 := y1.1
  by_cases hz : m < 2
  · obtain ⟨h2, n2, e2, _⟩ := sure_spec (k := k) (by omega) h1 (n1 + 5)
    rw [if_pos (by simp; omega), e2]
    simp only [bind_some', asI_int, asB_bool, asStr_str, asP_ptr, asSl_sl, asAgg_1, asAgg_2, asAgg_3, asAgg_4, asTup_0, asTup_2, asTup_3, asTup_4, if_true', if_false', if_not_true', if_not_false', getD_0, getD_1, getD_2, getD_3]
    exact ⟨_, _, rfl⟩
  · rw [if_neg (by simp; omega)]
    have hd : Int.tdiv ((4 * m : Nat) : Int) 4 = (m : Int) := by rw [Int.tdiv_eq_ediv_of_nonneg (by omega)]; omega
    rw [hd, wA (x := (m : Int)) (by omega) (by omega), wA (x := (m : Int) - 1) (by omega) (by omega)]
    obtain ⟨n3, e3, l3⟩ := picked_spec (k := k) (by omega) x1 ((m : Int) - 1) h1 (n1 + 11) (by omega) (by omega)
    rw [e3]
    simp only [bind_some', asI_int, asB_bool, asStr_str, asP_ptr, asSl_sl, asAgg_1, asAgg_2, asAgg_3, asAgg_4, asTup_0, asTup_2, asTup_3, asTup_4, if_true', if_false', if_not_true', if_not_false', getD_0, getD_1, getD_2, getD_3]
    have q0 := Int.emod_nonneg x1 (show (m : Int) - 1 ≠ 0 by omega)
    have q1 := Int.emod_lt_of_pos x1 (show (0 : Int) < m - 1 by omega)
    obtain ⟨i, hi⟩ : ∃ i : Nat, x1 % ((m : Int) - 1) = (i : Int) := ⟨(x1 % ((m : Int) - 1)).toNat, by omega⟩
    rw [hi] at q0 q1 ⊢
    rw [wA (x := 4 * (i : Int)) (by omega) (by omega), wA (x := 4 * (i : Int) + 4) (by omega) (by omega), wA (x := 4 * (i : Int) + 8) (by omega) (by omega)]
    rw [show (4 * (i : Int)) = ((4 * i : Nat) : Int) by omega, show (((4 * i : Nat) : Int) + 4) = ((4 * i + 4 : Nat) : Int) by omega, show (((4 * i : Nat) : Int) + 8) = ((4 * i + 8 : Nat) : Int) by omega]
    have hiX : 4 * i + 8 ≤ 4 * m := by omega
    -- the parts of X
    have sx : Sl h1 n1 xa (4 * m) 1 (ints .u8 X) := o1.sl
    obtain ⟨c0, s0, r0⟩ := sx.cut xc (lo := 0) (hi := 4 * i) (by omega) (by omega) (l := none) (r := some (.int .i64 ((4 * i : Nat) : Int))) bound_none (bound_some (by omega))
    rw [c0]
    simp only [bind_some', asI_int, asB_bool, asStr_str, asP_ptr, asSl_sl, asAgg_1, asAgg_2, asAgg_3, asAgg_4, asTup_0, asTup_2, asTup_3, asTup_4, if_true', if_false', if_not_true', if_not_false', getD_0, getD_1, getD_2, getD_3]
    obtain ⟨rd0, u0⟩ := s0.src'
    rw [u0]
    simp only [bind_some', asI_int, asB_bool, asStr_str, asP_ptr, asSl_sl, asAgg_1, asAgg_2, asAgg_3, asAgg_4, asTup_0, asTup_2, asTup_3, asTup_4, if_true', if_false', if_not_true', if_not_false', getD_0, getD_1, getD_2, getD_3]
    obtain ⟨e9, f1, f2, f3, f4⟩ := copyOf (h := h1) (nx := n1) (n := 4 * i - 0) (es := 1) (bytes := 1) (id := n3 + 3) (rd := rd0) s0.1 (growOk_of (by omega) (by omega)) (by omega)
    rw [f1]
    simp only [bind_some', asI_int, asB_bool, asStr_str, asP_ptr, asSl_sl, asAgg_1, asAgg_2, asAgg_3, asAgg_4, asTup_0, asTup_2, asTup_3, asTup_4, if_true', if_false', if_not_true', if_not_false', getD_0, getD_1, getD_2, getD_3]
    rw [f2]
    -- X[i+4 : i+8]
    have x1' := sx.ext f4
    obtain ⟨c1, s1, r1⟩ := x1'.cut xc (lo := 4 * i + 4) (hi := 4 * i + 8) (by omega) (by omega) (l := some (.int .i64 ((4 * i + 4 : Nat) : Int))) (r := some (.int .i64 ((4 * i + 8 : Nat) : Int))) (bound_some (by omega)) (bound_some (by omega))
    rw [c1]
    simp only [bind_some', asI_int, asB_bool, asStr_str, asP_ptr, asSl_sl, asAgg_1, asAgg_2, asAgg_3, asAgg_4, asTup_0, asTup_2, asTup_3, asTup_4, if_true', if_false', if_not_true', if_not_false', getD_0, getD_1, getD_2, getD_3]
    obtain ⟨rd1, u1⟩ := s1.src'
    rw [u1]
    simp only [bind_some', asI_int, asB_bool, asStr_str, asP_ptr, asSl_sl, asAgg_1, asAgg_2, asAgg_3, asAgg_4, asTup_0, asTup_2, asTup_3, asTup_4, if_true', if_false', if_not_true', if_not_false', getD_0, getD_1, getD_2, getD_3]
    obtain ⟨e13, g1, g2, g3, g4, g5⟩ := f3.appendS e9.c (bytes := 1) (id := n3 + 12) (k := 4 * i + 8 - (4 * i + 4)) (rd := rd1) s1.1 (growOk_of (by omega) (by omega)) (by omega) (by omega)
    rw [g1]
    simp only [bind_some', asI_int, asB_bool, asStr_str, asP_ptr, asSl_sl, asAgg_1, asAgg_2, asAgg_3, asAgg_4, asTup_0, asTup_2, asTup_3, asTup_4, if_true', if_false', if_not_true', if_not_false', getD_0, getD_1, getD_2, getD_3]
    rw [g2]
    have f4' := f4.then g4
    -- X[i : i+4]
    obtain ⟨c2, s2, r2⟩ := (sx.ext f4').cut xc (lo := 4 * i) (hi := 4 * i + 4) (by omega) (by omega) (l := some (.int .i64 ((4 * i : Nat) : Int))) (r := some (.int .i64 ((4 * i + 4 : Nat) : Int))) (bound_some (by omega)) (bound_some (by omega))
    rw [c2]
    simp only [bind_some', asI_int, asB_bool, asStr_str, asP_ptr, asSl_sl, asAgg_1, asAgg_2, asAgg_3, asAgg_4, asTup_0, asTup_2, asTup_3, asTup_4, if_true', if_false', if_not_true', if_not_false', getD_0, getD_1, getD_2, getD_3]
    obtain ⟨rd2, u2⟩ := s2.src'
    rw [u2]
    simp only [bind_some', asI_int, asB_bool, asStr_str, asP_ptr, asSl_sl, asAgg_1, asAgg_2, asAgg_3, asAgg_4, asTup_0, asTup_2, asTup_3, asTup_4, if_true', if_false', if_not_true', if_not_false', getD_0, getD_1, getD_2, getD_3]
    obtain ⟨e17, k1, k2, k3, k4, k5⟩ := g3.appendS e13.c (bytes := 1) (id := n3 + 18) (k := 4 * i + 4 - 4 * i) (rd := rd2) s2.1 (growOk_of (by omega) (by omega)) (by omega) (by omega)
    rw [k1]
    simp only [bind_some', asI_int, asB_bool, asStr_str, asP_ptr, asSl_sl, asAgg_1, asAgg_2, asAgg_3, asAgg_4, asTup_0, asTup_2, asTup_3, asTup_4, if_true', if_false', if_not_true', if_not_false', getD_0, getD_1, getD_2, getD_3]
    rw [k2]
    have f4'' := f4'.then k4
    -- X[i+8 :]
    obtain ⟨c3, s3, r3⟩ := (sx.ext f4'').cut xc (lo := 4 * i + 8) (hi := 4 * m) (by omega) (by omega) (l := some (.int .i64 ((4 * i + 8 : Nat) : Int))) (r := none) (bound_some (by omega)) bound_none
    rw [c3]
    simp only [bind_some', asI_int, asB_bool, asStr_str, asP_ptr, asSl_sl, asAgg_1, asAgg_2, asAgg_3, asAgg_4, asTup_0, asTup_2, asTup_3, asTup_4, if_true', if_false', if_not_true', if_not_false', getD_0, getD_1, getD_2, getD_3]
    obtain ⟨rd3, u3⟩ := s3.src'
    rw [u3]
    simp only [bind_some', asI_int, asB_bool, asStr_str, asP_ptr, asSl_sl, asAgg_1, asAgg_2, asAgg_3, asAgg_4, asTup_0, asTup_2, asTup_3, asTup_4, if_true', if_false', if_not_true', if_not_false', getD_0, getD_1, getD_2, getD_3]
    obtain ⟨e21, v1, v2, v3, v4, v5⟩ := k3.appendS e17.c (bytes := 1) (id := n3 + 23) (k := 4 * m - (4 * i + 8)) (rd := rd3) s3.1 (growOk_of (by omega) (by omega)) (by omega) (by omega)
    rw [v1]
    simp only [bind_some', asI_int, asB_bool, asStr_str, asP_ptr, asSl_sl, asAgg_1, asAgg_2, asAgg_3, asAgg_4, asTup_0, asTup_2, asTup_3, asTup_4, if_true', if_false', if_not_true', if_not_false', getD_0, getD_1, getD_2, getD_3]
    rw [v2]
    have f5 := f4''.then v4
    have ap : AllApart [(idsOf e13.sets, rdOf xa), (idsOf e13.sets, rdOf xa), (idsOf e17.sets, rdOf xa)] := by
      have hx : ∀ x ∈ rdOf xa, x < n1 := by
        intro x hx
        rcases o1.2 with ⟨rfl, _⟩ | ⟨j, rfl, _, hj, _⟩
        · cases hx
        · simp [rdOf] at hx; omega
      exact ⟨fun x h1 h2 => by have := g5 x h1; have := hx x h2; omega, fun x h1 h2 => by have := g5 x h1; have := hx x h2; omega, fun x h1 h2 => by have := k5 x h1; have := hx x h2; omega, trivial⟩
    rw [ifApart_pos ap]
    -- what Y is
    obtain ⟨b0, b1, b2, b3, b4, b5, b6, b7, q, hX⟩ : ∃ b0 b1 b2 b3 b4 b5 b6 b7 q, X.drop (4 * i) = b0 :: b1 :: b2 :: b3 :: b4 :: b5 :: b6 :: b7 :: q := by
      have hlen : 8 ≤ (X.drop (4 * i)).length := by rw [List.length_drop]; omega
      match X.drop (4 * i), hlen with
      | b0 :: b1 :: b2 :: b3 :: b4 :: b5 :: b6 :: b7 :: q, _ => exact ⟨b0, b1, b2, b3, b4, b5, b6, b7, q, rfl⟩
    have eX : X = X.take (4 * i) ++ ([b0, b1, b2, b3] ++ ([b4, b5, b6, b7] ++ q)) := by
      conv => lhs; rw [← List.take_append_drop (4 * i) X, hX]
      rfl
    have hp : (X.take (4 * i)).length = 4 * i := by rw [List.length_take]; omega
    generalize X.take (4 * i) = p at *
    have hql : q.length = 4 * m - (4 * i + 8) := by
      have := congrArg List.length eX
      simp at this; omega
    have hY : (((ints .u8 X).drop (0 * 1)).take ((4 * i - 0) * 1) ++ ((ints .u8 X).drop ((4 * i + 4) * 1)).take ((4 * i + 8 - (4 * i + 4)) * 1)) ++ ((ints .u8 X).drop (4 * i * 1)).take ((4 * i + 4 - 4 * i) * 1) ++ ((ints .u8 X).drop ((4 * i + 8) * 1)).take ((4 * m - (4 * i + 8)) * 1) = ints .u8 (p ++ ([b4, b5, b6, b7] ++ ([b0, b1, b2, b3] ++ q))) := by
      have iX : ints .u8 X = ints .u8 p ++ (ints .u8 [b0, b1, b2, b3] ++ (ints .u8 [b4, b5, b6, b7] ++ ints .u8 q)) := by rw [eX]; simp [ints]
      have hpl : (ints .u8 p).length = 4 * i := by simp [ints, hp]
      rw [piece (U := []) (V := ints .u8 p) (W := ints .u8 [b0, b1, b2, b3] ++ (ints .u8 [b4, b5, b6, b7] ++ ints .u8 q)) (by rw [iX]; rfl) (by simp) (by omega)]
      rw [piece (U := ints .u8 p ++ ints .u8 [b0, b1, b2, b3]) (V := ints .u8 [b4, b5, b6, b7]) (W := ints .u8 q) (by rw [iX]; simp) (by rw [List.length_append, hpl]; simp [ints]) (by simp [ints]; try omega)]
      rw [piece (U := ints .u8 p) (V := ints .u8 [b0, b1, b2, b3]) (W := ints .u8 [b4, b5, b6, b7] ++ ints .u8 q) iX (by omega) (by simp [ints]; try omega)]
      rw [piece (U := ints .u8 p ++ (ints .u8 [b0, b1, b2, b3] ++ ints .u8 [b4, b5, b6, b7])) (V := ints .u8 q) (W := []) (by rw [iX]; simp) (by rw [List.length_append, hpl]; simp [ints]) (by simp [ints]; try omega)]
      simp [ints]
    rw [hY] at v3
    have hsum : 4 * i - 0 + (4 * i + 8 - (4 * i + 4)) + (4 * i + 4 - 4 * i) + (4 * m - (4 * i + 8)) = 4 * m := by omega
    rw [hsum] at v3 ⊢
    have hbb : Bytes [b0, b1, b2, b3, b4, b5, b6, b7] := fun x hx => bX x (by rw [eX]; simp at hx ⊢; grind)
    obtain ⟨sa, se⟩ := swapped (q := q) hp hbb
    rw [← eX] at sa se
    have bY : Bytes (p ++ ([b4, b5, b6, b7] ++ ([b0, b1, b2, b3] ++ q))) := fun x hx => bX x (by rw [eX]; simp at hx ⊢; grind)
    have hYl : (p ++ ([b4, b5, b6, b7] ++ ([b0, b1, b2, b3] ++ q))).length = 4 * m := by
      have := congrArg List.length eX
      simp at this ⊢; omega
    generalize p ++ ([b4, b5, b6, b7] ++ ([b0, b1, b2, b3] ++ q)) = Y at *
    have sX : Sl (((((h1.puts e9.sets).puts e13.sets).puts e17.sets).puts e21.sets)) (n3 + 24) xa X.length 1 (ints .u8 X) := by rw [hXl]; exact sx.ext (f5.le (by omega))
    have sY : Sl (((((h1.puts e9.sets).puts e13.sets).puts e17.sets).puts e21.sets)) (n3 + 24) e21.a Y.length 1 (ints .u8 Y) := by rw [hYl]; exact (v3.le (by omega)).sl
    generalize (((h1.puts e9.sets).puts e13.sets).puts e17.sets).puts e21.sets = G at *
    have up : Ext G (n3 + 24) G (n3 + 33) := ⟨by omega, fun _ _ => rfl⟩
    obtain ⟨h5, n5, w1, z1⟩ := ofb_spec (k := k) X m hXl (by omega) bX xc (sX.ext up)
    rw [hXl] at w1
    have zz1 := z1.1
    generalize Sm.zero.fold (wordsOf X) = S at *
    rw [w1]
    simp only [bind_some', asI_int, asB_bool, asStr_str, asP_ptr, asSl_sl, asAgg_1, asAgg_2, asAgg_3, asAgg_4, asTup_0, asTup_2, asTup_3, asTup_4, if_true', if_false', if_not_true', if_not_false', getD_0, getD_1, getD_2, getD_3]
    rw [asAgg_sm]
    simp only [bind_some', asI_int, asB_bool, asStr_str, asP_ptr, asSl_sl, asAgg_1, asAgg_2, asAgg_3, asAgg_4, asTup_0, asTup_2, asTup_3, asTup_4, if_true', if_false', if_not_true', if_not_false', getD_0, getD_1, getD_2, getD_3]
    rw [st_all (put_same _ _ _) (by rfl) (by rfl) (by rfl), put_put]
    have z2 : Ext G (n3 + 24) (h5.put (n3 + 30) (some ⟨S.cells, 4, true⟩)) (n5 + 8) := ⟨by omega, fun j hj => by rw [put_ne (by omega), z1.2 j (by omega)]⟩
    obtain ⟨h6, n6, w2, z3⟩ := ofb_spec (k := k) Y m hYl (by omega) bY e21.c (sY.ext z2)
    rw [hYl] at w2
    have zz3 := z3.1
    generalize Sm.zero.fold (wordsOf Y) = T at *
    rw [show (AHeap.put h5 (n3 + 30) (some ⟨[(.int .i64 (wrapA .i64 S.a)), (.int .i64 (wrapA .i64 S.b)), (.int .i64 (wrapA .i64 S.c)), (.int .i64 (wrapA .i64 S.d))], 4, true⟩)) = h5.put (n3 + 30) (some ⟨S.cells, 4, true⟩) from rfl, w2]
    simp only [bind_some', asI_int, asB_bool, asStr_str, asP_ptr, asSl_sl, asAgg_1, asAgg_2, asAgg_3, asAgg_4, asTup_0, asTup_2, asTup_3, asTup_4, if_true', if_false', if_not_true', if_not_false', getD_0, getD_1, getD_2, getD_3]
    rw [asAgg_sm]
    simp only [bind_some', asI_int, asB_bool, asStr_str, asP_ptr, asSl_sl, asAgg_1, asAgg_2, asAgg_3, asAgg_4, asTup_0, asTup_2, asTup_3, asTup_4, if_true', if_false', if_not_true', if_not_false', getD_0, getD_1, getD_2, getD_3]
    rw [st_all (put_same _ _ _) (by rfl) (by rfl) (by rfl), put_put]
    rw [show (AHeap.put h6 (n5 + 5) (some ⟨[(.int .i64 (wrapA .i64 T.a)), (.int .i64 (wrapA .i64 T.b)), (.int .i64 (wrapA .i64 T.c)), (.int .i64 (wrapA .i64 T.d))], 4, true⟩)) = h6.put (n5 + 5) (some ⟨T.cells, 4, true⟩) from rfl]
    obtain ⟨h7, n7, w3, z4⟩ := sure_spec (k := k) (by omega) (h6.put (n5 + 5) (some ⟨T.cells, 4, true⟩)) (n6 + 26)
    have zz4 := z4.1
    rw [w3]
    simp only [bind_some', asI_int, asB_bool, asStr_str, asP_ptr, asSl_sl, asAgg_1, asAgg_2, asAgg_3, asAgg_4, asTup_0, asTup_2, asTup_3, asTup_4, if_true', if_false', if_not_true', if_not_false', getD_0, getD_1, getD_2, getD_3]
    have bs : h7 (n3 + 30) = some ⟨S.cells, 4, true⟩ := by rw [z4.2 _ (by omega), put_ne (by omega), z3.2 _ (by omega), put_same]
    have bt : h7 (n5 + 5) = some ⟨T.cells, 4, true⟩ := by rw [z4.2 _ (by omega), put_same]
    have z5 : Ext G (n3 + 24) h7 n7 := ⟨by omega, fun j hj => by rw [z4.2 j (by omega), put_ne (by omega), z3.2 j (by omega), z2.2 j hj]⟩
    rw [if_pos (by decide), if_pos (by decide), if_pos (by decide), ld_at bs (by rfl)]
    simp only [bind_some', asI_int, asB_bool, asStr_str, asP_ptr, asSl_sl, asAgg_1, asAgg_2, asAgg_3, asAgg_4, asTup_0, asTup_2, asTup_3, asTup_4, if_true', if_false', if_not_true', if_not_false', getD_0, getD_1, getD_2, getD_3]
    rw [ld_at bt (by rfl)]
    simp only [bind_some', asI_int, asB_bool, asStr_str, asP_ptr, asSl_sl, asAgg_1, asAgg_2, asAgg_3, asAgg_4, asTup_0, asTup_2, asTup_3, asTup_4, if_true', if_false', if_not_true', if_not_false', getD_0, getD_1, getD_2, getD_3]
    rw [if_pos (by rw [sa]; simp), ldr_all bs (by rfl), asAgg_sm]
    simp only [bind_some', asI_int, asB_bool, asStr_str, asP_ptr, asSl_sl, asAgg_1, asAgg_2, asAgg_3, asAgg_4, asTup_0, asTup_2, asTup_3, asTup_4, if_true', if_false', if_not_true', if_not_false', getD_0, getD_1, getD_2, getD_3]
    rw [ldr_all bt (by rfl), asAgg_sm]
    simp only [bind_some', asI_int, asB_bool, asStr_str, asP_ptr, asSl_sl, asAgg_1, asAgg_2, asAgg_3, asAgg_4, asTup_0, asTup_2, asTup_3, asTup_4, if_true', if_false', if_not_true', if_not_false', getD_0, getD_1, getD_2, getD_3]
    obtain ⟨n8, y8, w4⟩ := sameB_spec (f := k) X Y (by omega) (by omega) (by omega) xc e21.c (sX.ext z5) (sY.ext z5) n7
    rw [hXl, hYl] at w4
    rw [w4]
    simp only [bind_some', asI_int, asB_bool, asStr_str, asP_ptr, asSl_sl, asAgg_1, asAgg_2, asAgg_3, asAgg_4, asTup_0, asTup_2, asTup_3, asTup_4, if_true', if_false', if_not_true', if_not_false', getD_0, getD_1, getD_2, getD_3]
    rw [ifKept_pos (by exact ⟨fun x _ => rfl, fun x _ => rfl, trivial⟩), eqSm, se, beq_self_eq_true]
    exact ⟨_, _, rfl⟩

end Go.Proofs.Ytdjbhonncjcbjaa.T
