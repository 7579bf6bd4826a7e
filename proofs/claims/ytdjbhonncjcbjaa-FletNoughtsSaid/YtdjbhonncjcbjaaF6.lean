import Derived.Test.YtdjbhonncjcbjaaFLc
set_option linter.unusedVariables false
set_option linter.unusedSimpArgs false
namespace Go.Proofs.Ytdjbhonncjcbjaa.T
open Go Go.RowKit Go.Proofs

theorem fold_a (ws : List Int) : ∀ s : Sm, (s.fold ws).a = s.a + ws.sum := by
  induction ws with
  | nil => intro s; simp [Sm.fold]
  | cons w ws ih => intro s; have := ih (s.step w); simp only [Sm.fold, List.foldl_cons] at *; rw [this]; simp [Sm.step]; omega

def smEq (s t : Sm) : Bool := wrapA .i64 s.a == wrapA .i64 t.a && (wrapA .i64 s.b == wrapA .i64 t.b && (wrapA .i64 s.c == wrapA .i64 t.c && wrapA .i64 s.d == wrapA .i64 t.d))
theorem eqSm (s t : Sm) : eqCells [(.int .i64 (wrapA .i64 s.a)), (.int .i64 (wrapA .i64 s.b)), (.int .i64 (wrapA .i64 s.c)), (.int .i64 (wrapA .i64 s.d))] [(.int .i64 (wrapA .i64 t.a)), (.int .i64 (wrapA .i64 t.b)), (.int .i64 (wrapA .i64 t.c)), (.int .i64 (wrapA .i64 t.d))] = smEq s t := by
  simp only [eqCells, eqA1, smEq]
theorem asAgg_sm (s : Sm) : asAgg 4 (.agg s.cells) = some [.int .i64 (wrapA .i64 s.a), .int .i64 (wrapA .i64 s.b), .int .i64 (wrapA .i64 s.c), .int .i64 (wrapA .i64 s.d)] := asAgg_4 _ _ _ _

theorem wrap_inj {x y : Int} (h : wrapA .i64 x = wrapA .i64 y) (hd : -9223372036854775808 < x - y) (hd' : x - y < 9223372036854775808) : x = y := by
  have h' : wrap64 x = wrap64 y := h
  unfold wrap64 at h'; omega

/-- Lists that differ in one word alone have the same sum only if they are the same. -/
theorem changed {m i : Nat} {X Y : List Int} (hX : X.length = 4 * m) (hY : Y.length = 4 * m) (hi : i < m) (bX : Bytes X) (bY : Bytes Y) (h1 : Y.take (4 * i) = X.take (4 * i)) (h2 : Y.drop (4 * i + 4) = X.drop (4 * i + 4)) :
    smEq (Sm.zero.fold (wordsOf X)) (Sm.zero.fold (wordsOf Y)) = decide (X = Y) := by
  have split : ∀ Z : List Int, Z.length = 4 * m → ∃ a b c d, Z = Z.take (4 * i) ++ (a :: b :: c :: d :: Z.drop (4 * i + 4)) := by
    intro Z hZ
    have e1 := List.drop_eq_getElem_cons (l := Z) (i := 4 * i) (by omega)
    have e2 := List.drop_eq_getElem_cons (l := Z) (i := 4 * i + 1) (by omega)
    have e3 := List.drop_eq_getElem_cons (l := Z) (i := 4 * i + 2) (by omega)
    have e4 := List.drop_eq_getElem_cons (l := Z) (i := 4 * i + 3) (by omega)
    refine ⟨Z[4 * i], Z[4 * i + 1], Z[4 * i + 2], Z[4 * i + 3], ?_⟩
    rw [← e4, ← e3, ← e2, ← e1, List.take_append_drop]
  obtain ⟨a, b, c, d, eX⟩ := split X hX
  obtain ⟨a', b', c', d', eY⟩ := split Y hY
  rw [h1, h2] at eY
  generalize X.take (4 * i) = p at *
  generalize X.drop (4 * i + 4) = q at *
  have hp : p.length = 4 * i := by rw [← h1]; simp; omega
  have sX : (Sm.zero.fold (wordsOf X)).a = (wordsOf p).sum + (wordOf a b c d + (wordsOf q).sum) := by
    rw [fold_a, eX, wordsOf_append i p _ hp]; simp [wordsOf, Sm.zero]
  have sY : (Sm.zero.fold (wordsOf Y)).a = (wordsOf p).sum + (wordOf a' b' c' d' + (wordsOf q).sum) := by
    rw [fold_a, eY, wordsOf_append i p _ hp]; simp [wordsOf, Sm.zero]
  have r : (0 ≤ a ∧ a < 256) ∧ (0 ≤ b ∧ b < 256) ∧ (0 ≤ c ∧ c < 256) ∧ (0 ≤ d ∧ d < 256) := by
    refine ⟨bX a ?_, bX b ?_, bX c ?_, bX d ?_⟩ <;> rw [eX] <;> simp
  have r' : (0 ≤ a' ∧ a' < 256) ∧ (0 ≤ b' ∧ b' < 256) ∧ (0 ≤ c' ∧ c' < 256) ∧ (0 ≤ d' ∧ d' < 256) := by
    refine ⟨bY a' ?_, bY b' ?_, bY c' ?_, bY d' ?_⟩ <;> rw [eY] <;> simp
  by_cases hXY : X = Y
  · rw [decide_eq_true hXY, hXY]; simp [smEq]
  · rw [decide_eq_false hXY]
    have : ¬ wrapA .i64 (Sm.zero.fold (wordsOf X)).a = wrapA .i64 (Sm.zero.fold (wordsOf Y)).a := by
      intro h
      rw [sX, sY] at h
      have hd : (wordsOf p).sum + (wordOf a b c d + (wordsOf q).sum) - ((wordsOf p).sum + (wordOf a' b' c' d' + (wordsOf q).sum)) = wordOf a b c d - wordOf a' b' c' d' := by omega
      have e := wrap_inj h (by rw [hd]; unfold wordOf; omega) (by rw [hd]; unfold wordOf; omega)
      have e2 : wordOf a b c d = wordOf a' b' c' d' := by omega
      unfold wordOf at e2
      have : a = a' ∧ b = b' ∧ c = c' ∧ d = d' := by omega
      obtain ⟨rfl, rfl, rfl, rfl⟩ := this
      exact hXY (by rw [eX, eY])
    simp [smEq, this]

theorem changed_tail {k0 : Nat} (lf : Nat) {m i : Nat} {X Y : List Int} (hk0 : m + 4 * m + 100 ≤ k0) (hm : m ≤ 1000) (hX : X.length = 4 * m) (hY : Y.length = 4 * m) (hi : i < m) (bX : Bytes X) (bY : Bytes Y) (h1 : Y.take (4 * i) = X.take (4 * i)) (h2 : Y.drop (4 * i + 4) = X.drop (4 * i + 4))
    {xa ya : Option (Nat × Nat)} (xc yc : Bool) {h : AHeap} {nx : Nat} (sx : Sl h nx xa X.length 1 (ints .u8 X)) (sy : Sl h nx ya Y.length 1 (ints .u8 Y)) :
    ∃ h' nx', F6_J3 (callP Try.prog keepT k0) lf xa X.length xc ya Y.length yc h nx = some (.bool true, h', nx') := by
  obtain ⟨h1', n1, e1, x1⟩ := ofb_spec (k := k0) X m hX (by omega) bX xc (sx.ext (show Ext h nx h (nx + 8) from ⟨by omega, fun _ _ => rfl⟩))
  have y1 := x1.1
  have hch := changed hX hY hi bX bY h1 h2
  generalize Sm.zero.fold (wordsOf X) = S at *
  have z1 : Ext h nx ((h1'.put (nx + 5) (some ⟨[(.int .i64 0), (.int .i64 0), (.int .i64 0), (.int .i64 0)], 4, true⟩)).put (nx + 5) (some ⟨S.cells, 4, true⟩)) (n1 + 8) := ⟨by omega, fun i hi => by rw [put_ne (by omega), put_ne (by omega), x1.2 i (by omega)]⟩
  obtain ⟨h2', n2, e2, x2⟩ := ofb_spec (k := k0) Y m hY (by omega) bY yc (sy.ext z1)
  have y2 := x2.1
  generalize Sm.zero.fold (wordsOf Y) = T at *
  obtain ⟨h3, n3, e3, x3⟩ := sure_spec (k := k0) (by omega) ((h2'.put (n1 + 5) (some ⟨[(.int .i64 0), (.int .i64 0), (.int .i64 0), (.int .i64 0)], 4, true⟩)).put (n1 + 5) (some ⟨T.cells, 4, true⟩)) (n2 + 19)
  have y3 := x3.1
  have bs : h3 (nx + 5) = some ⟨S.cells, 4, true⟩ := by rw [x3.2 _ (by omega), put_ne (by omega), put_ne (by omega), x2.2 _ (by omega), put_same]
  have bt : h3 (n1 + 5) = some ⟨T.cells, 4, true⟩ := by rw [x3.2 _ (by omega), put_same]
  have z2 : Ext h nx h3 n3 := ⟨by omega, fun i hi => by rw [x3.2 i (by omega), put_ne (by omega), put_ne (by omega), x2.2 i (by omega), z1.2 i hi]⟩
  obtain ⟨n4, y4, e4⟩ := sameB_spec (f := k0) X Y (by omega) (by omega) (by omega) xc yc (sx.ext z2) (sy.ext z2) n3
  rw [F6_J3_eq, e1]
  simp only [bind_some', asI_int, asB_bool, asStr_str, asP_ptr, asSl_sl, asAgg_1, asAgg_2, asAgg_3, asAgg_4, asTup_0, asTup_2, asTup_3, asTup_4, if_true', if_false', if_not_true', if_not_false', getD_0, getD_1, getD_2, getD_3]
  rw [asAgg_sm]
  simp only [bind_some', asI_int, asB_bool, asStr_str, asP_ptr, asSl_sl, asAgg_1, asAgg_2, asAgg_3, asAgg_4, asTup_0, asTup_2, asTup_3, asTup_4, if_true', if_false', if_not_true', if_not_false', getD_0, getD_1, getD_2, getD_3]
  rw [st_all (put_same _ _ _) (by rfl) (by rfl) (by rfl)]
  rw [show (h1'.put (nx + 5) (some ⟨[(.int .i64 0), (.int .i64 0), (.int .i64 0), (.int .i64 0)], 4, true⟩)).put (nx + 5) (some ⟨[(.int .i64 (wrapA .i64 S.a)), (.int .i64 (wrapA .i64 S.b)), (.int .i64 (wrapA .i64 S.c)), (.int .i64 (wrapA .i64 S.d))], 4, true⟩) = (h1'.put (nx + 5) (some ⟨[(.int .i64 0), (.int .i64 0), (.int .i64 0), (.int .i64 0)], 4, true⟩)).put (nx + 5) (some ⟨S.cells, 4, true⟩) from rfl, e2]
  simp only [bind_some', asI_int, asB_bool, asStr_str, asP_ptr, asSl_sl, asAgg_1, asAgg_2, asAgg_3, asAgg_4, asTup_0, asTup_2, asTup_3, asTup_4, if_true', if_false', if_not_true', if_not_false', getD_0, getD_1, getD_2, getD_3]
  rw [asAgg_sm]
  simp only [bind_some', asI_int, asB_bool, asStr_str, asP_ptr, asSl_sl, asAgg_1, asAgg_2, asAgg_3, asAgg_4, asTup_0, asTup_2, asTup_3, asTup_4, if_true', if_false', if_not_true', if_not_false', getD_0, getD_1, getD_2, getD_3]
  rw [st_all (put_same _ _ _) (by rfl) (by rfl) (by rfl)]
  rw [show (h2'.put (n1 + 5) (some ⟨[(.int .i64 0), (.int .i64 0), (.int .i64 0), (.int .i64 0)], 4, true⟩)).put (n1 + 5) (some ⟨[(.int .i64 (wrapA .i64 T.a)), (.int .i64 (wrapA .i64 T.b)), (.int .i64 (wrapA .i64 T.c)), (.int .i64 (wrapA .i64 T.d))], 4, true⟩) = (h2'.put (n1 + 5) (some ⟨[(.int .i64 0), (.int .i64 0), (.int .i64 0), (.int .i64 0)], 4, true⟩)).put (n1 + 5) (some ⟨T.cells, 4, true⟩) from rfl, e3]
  simp only [bind_some', asI_int, asB_bool, asStr_str, asP_ptr, asSl_sl, asAgg_1, asAgg_2, asAgg_3, asAgg_4, asTup_0, asTup_2, asTup_3, asTup_4, if_true', if_false', if_not_true', if_not_false', getD_0, getD_1, getD_2, getD_3]
  rw [if_pos (by decide), if_pos (by decide), if_pos (by decide), ldr_all bs (by rfl), asAgg_sm]
  simp only [bind_some', asI_int, asB_bool, asStr_str, asP_ptr, asSl_sl, asAgg_1, asAgg_2, asAgg_3, asAgg_4, asTup_0, asTup_2, asTup_3, asTup_4, if_true', if_false', if_not_true', if_not_false', getD_0, getD_1, getD_2, getD_3]
  rw [ldr_all bt (by rfl), asAgg_sm]
  simp only [bind_some', asI_int, asB_bool, asStr_str, asP_ptr, asSl_sl, asAgg_1, asAgg_2, asAgg_3, asAgg_4, asTup_0, asTup_2, asTup_3, asTup_4, if_true', if_false', if_not_true', if_not_false', getD_0, getD_1, getD_2, getD_3]
  rw [e4]
  simp only [bind_some', asI_int, asB_bool, asStr_str, asP_ptr, asSl_sl, asAgg_1, asAgg_2, asAgg_3, asAgg_4, asTup_0, asTup_2, asTup_3, asTup_4, if_true', if_false', if_not_true', if_not_false', getD_0, getD_1, getD_2, getD_3]
  rw [ifKept_pos (by exact ⟨fun x _ => rfl, fun x _ => rfl, trivial⟩), eqSm, hch, beq_self_eq_true]
  exact ⟨_, _, rfl⟩

theorem xor_byte (a b : Int) : 0 ≤ bits .xor .u8 a b ∧ bits .xor .u8 a b < 256 := by
  have : ∀ z : Int, 0 ≤ IntKind.u8.wrap z ∧ IntKind.u8.wrap z < 256 := fun z => by rw [IntKind.wrap_u8]; omega
  exact this _

theorem changed_loop {k0 : Nat} (lf : Nat) {m i : Nat} {X B : List Int} (hk0 : m + 4 * m + 100 ≤ k0) (hm : m ≤ 1000) (hX : X.length = 4 * m) (hi : i < m) (bX : Bytes X) {ba : Option (Nat × Nat)} (bc : Bool) {xa : Option (Nat × Nat)} (xc yc : Bool) {h0 : AHeap} {nx0 : Nat} {yi : Nat} (hyi : nx0 ≤ yi)
    (sB : Sl h0 nx0 ba B.length 1 (ints .u8 B)) (sx : Sl h0 nx0 xa X.length 1 (ints .u8 X)) (hBl : B.length ≤ 1000000000000000) (d : Nat) :
    ∀ (r j : Nat) (Y : List Int) (h : AHeap) (nx : Nat), j + d = 4 → d < r → Y.length = 4 * m → Bytes Y → Y.take (4 * i) = X.take (4 * i) → Y.drop (4 * i + 4) = X.drop (4 * i + 4) → Ext h0 nx0 h nx → yi < nx → h yi = some ⟨ints .u8 Y, 1, true⟩ →
    ∃ h' nx', F6_L1 (callP Try.prog keepT k0) lf r ba B.length bc xa X.length xc (some (yi, 0)) X.length yc ((4 * i : Nat) : Int) (j : Int) h nx = some (.bool true, h', nx') := by
  have tail : ∀ (Y : List Int) (h : AHeap) (nx : Nat), Y.length = 4 * m → Bytes Y → Y.take (4 * i) = X.take (4 * i) → Y.drop (4 * i + 4) = X.drop (4 * i + 4) → Ext h0 nx0 h nx → yi < nx → h yi = some ⟨ints .u8 Y, 1, true⟩ →
      ∃ h' nx', F6_J3 (callP Try.prog keepT k0) lf xa X.length xc (some (yi, 0)) X.length yc h nx = some (.bool true, h', nx') := by
    intro Y h nx hY bY t1 t2 hx hlt hb
    have sy : Sl h nx (some (yi, 0)) Y.length 1 (ints .u8 Y) := ⟨by simp [ints], fun q hq => ⟨(yi, 0), _, rfl, hlt, hb, rfl, by simp [ints], fun q hq => by simp⟩⟩
    have := changed_tail lf hk0 hm hX hY hi bX bY t1 t2 xc yc (sx.ext hx) sy
    rwa [show Y.length = X.length by omega] at this
  induction d with
  | zero =>
    intro r j Y h nx e hr hY bY t1 t2 hx hlt hb
    obtain ⟨r, rfl⟩ : ∃ m, r = m + 1 := ⟨r - 1, by omega⟩
    obtain rfl : j = 4 := by omega
    rw [F6_L1_eq, if_neg (by decide)]
    exact tail Y h (nx + 8) hY bY t1 t2 (hx.le (by omega)) (by omega) hb
  | succ d ih =>
    intro r j Y h nx e hr hY bY t1 t2 hx hlt hb
    obtain ⟨r, rfl⟩ : ∃ m, r = m + 1 := ⟨r - 1, by omega⟩
    have hj : (j : Int) < 4 := by omega
    rw [F6_L1_eq, if_pos (by simpa using hj)]
    by_cases hjb : j < B.length
    · have hjY : 4 * i + j < Y.length := by omega
      have he : j + 1 + d = 4 := by omega
      have hdr : d < r := by omega
      have q0 : 0 ≤ ((4 * i + j : Nat) : Int) ∧ ((4 * i + j : Nat) : Int) < ((X.length : Nat) : Int) := by omega
      have hx1 := hx.1
      have w1 : wrapA .i64 (((4 * i : Nat) : Int) + (j : Int)) = ((4 * i + j : Nat) : Int) := by rw [wA (by omega) (by omega)]; omega
      have w2 : wrapA .i64 ((j : Int) + 1) = ((j + 1 : Nat) : Int) := by clear w1; rw [wA (by omega) (by omega)]; omega
      rw [if_pos (by simpa using hjb), F6_J2_eq, w1, some_bind, if_pos q0, Int.toNat_natCast, Nat.zero_add, ld_at hb (ints_get hjY)]
      simp only [bind_some', asI_int, asB_bool, asStr_str, asP_ptr, asSl_sl, asAgg_1, asAgg_2, asAgg_3, asAgg_4, asTup_0, asTup_2, asTup_3, asTup_4, if_true', if_false', if_not_true', if_not_false', getD_0, getD_1, getD_2, getD_3]
      rw [(sB.ext hx).readI hjb]
      simp only [bind_some', asI_int, asB_bool, asStr_str, asP_ptr, asSl_sl, asAgg_1, asAgg_2, asAgg_3, asAgg_4, asTup_0, asTup_2, asTup_3, asTup_4, if_true', if_false', if_not_true', if_not_false', getD_0, getD_1, getD_2, getD_3]
      rw [if_pos q0, st_one hb rfl (by simp [ints]; omega), w2, Nat.mul_one]
      refine ih r (j + 1) (Y.set (4 * i + j) (bits .xor .u8 Y[4 * i + j] B[j])) _ _ he hdr (by rw [List.length_set]; exact hY) ?_ ?_ ?_ (hx.put hyi (by clear w1 w2; omega)) (by clear w1 w2; omega) ?_
      · intro x hx'
        rcases List.mem_or_eq_of_mem_set hx' with h' | rfl
        · exact bY x h'
        · exact xor_byte _ _
      · rw [List.take_set_of_le (by clear w1 w2; omega)]; exact t1
      · rw [List.drop_set_of_lt (by clear w1 w2; omega)]; exact t2
      · rw [put_same]; simp [ints, List.map_set]
    · rw [if_neg (by simpa using hjb)]
      exact tail Y h (nx + 8) hY bY t1 t2 (hx.le (by omega)) (by omega) hb

theorem wf_byte {n : Int} (h : (Lit.int .u8 n).wf = true) : 0 ≤ n ∧ n < 256 := by
  simp [Lit.wf, IntKind.min, IntKind.max, IntKind.signed, IntKind.bits] at h; omega

theorem FletChanged_run (h : AHeap) (nx : Nat) (l : List Int) (hl : l.length * 1 ≤ 140737488351232) (hw : ∀ n ∈ l, (Lit.int .u8 n).wf = true) (a : Option (Nat × Nat)) (hs : Sl h nx a l.length 1 (l.map (AV.int .u8)))
    (x1 : Int) (_ : (Lit.int .i64 x1).wf = true) (B : List Int) (hBl : B.length * 1 ≤ 140737488351232) (_ : ∀ n ∈ B, (Lit.int .u8 n).wf = true) (ba : Option (Nat × Nat)) (sB : Sl h nx ba B.length 1 (B.map (AV.int .u8))) :
    ∃ f h' nx', callP Try.prog keepT f 6 [.slice a l.length false, .int .i64 x1, .slice ba B.length false] h nx = some (.bool true, h', nx') := by
  refine ⟨2000 + 1, ?_⟩
  obtain ⟨k, hk⟩ : ∃ k, k = 2000 := ⟨_, rfl⟩
  rw [← hk]
  obtain ⟨xa, xc, h1, n1, e1, o1, y1⟩ := words_spec (k := k) (by omega) l 400 (by omega) (by omega) false (h := h) (nx := nx + 4) (hs.ext ⟨by omega, fun _ _ => rfl⟩)
  rw [F6_eq]
  have e1' : callP Try.prog keepT k 19 [.slice a l.length false, .int .i64 400] h (nx + 4) = _ := e1
  rw [e1']
  simp only [bind_some', asI_int, asB_bool, asStr_str, asP_ptr, asSl_sl, asAgg_1, asAgg_2, asAgg_3, asAgg_4, asTup_0, asTup_2, asTup_3, asTup_4, if_true', if_false', if_not_true', if_not_false', getD_0, getD_1, getD_2, getD_3]
  have hwl : wlen l.length 400 ≤ l.length ∧ wlen l.length 400 ≤ 400 ∧ wlen l.length 400 % 4 = 0 := by unfold wlen; omega
  have bX : Bytes (l.take (wlen l.length 400)) := fun x hx => wf_byte (hw x (List.mem_of_mem_take hx))
  obtain ⟨m, hm⟩ : ∃ m, wlen l.length 400 = 4 * m := ⟨wlen l.length 400 / 4, by omega⟩
  have hm100 : m ≤ 100 := by omega
  have hXl : (l.take (wlen l.length 400)).length = 4 * m := by rw [List.length_take]; omega
  generalize l.take (wlen l.length 400) = X at *
  rw [hm] at *
  have yy1 := y1.1
  by_cases hz : m = 0
  · subst hz
    obtain ⟨h2, n2, e2, _⟩ := sure_spec (k := k) (by omega) h1 (n1 + 5)
    rw [if_pos (by simp), e2]
    simp only [bind_some', asI_int, asB_bool, asStr_str, asP_ptr, asSl_sl, asAgg_1, asAgg_2, asAgg_3, asAgg_4, asTup_0, asTup_2, asTup_3, asTup_4, if_true', if_false', if_not_true', if_not_false', getD_0, getD_1, getD_2, getD_3]
    exact ⟨_, _, rfl⟩
  · rw [if_neg (by simp; omega)]
    obtain ⟨rd, src⟩ := o1.sl.src'
    rw [src]
    simp only [bind_some', asI_int, asB_bool, asStr_str, asP_ptr, asSl_sl, asAgg_1, asAgg_2, asAgg_3, asAgg_4, asTup_0, asTup_2, asTup_3, asTup_4, if_true', if_false', if_not_true', if_not_false', getD_0, getD_1, getD_2, getD_3]
    obtain ⟨e6, f1, f2, f3, f4⟩ := copyOf (h := h1) (nx := n1) (n := 4 * m) (es := 1) (bytes := 1) (id := n1 + 4) (rd := rd) o1.1 (growOk_of (by omega) (by omega)) (by omega)
    rw [f1]
    simp only [bind_some', asI_int, asB_bool, asStr_str, asP_ptr, asSl_sl, asAgg_1, asAgg_2, asAgg_3, asAgg_4, asTup_0, asTup_2, asTup_3, asTup_4, if_true', if_false', if_not_true', if_not_false', getD_0, getD_1, getD_2, getD_3]
    have ff4 := f4.1
    rw [f2]
    have hd : Int.tdiv ((4 * m : Nat) : Int) 4 = (m : Int) := by rw [Int.tdiv_eq_ediv_of_nonneg (by omega)]; omega
    rw [hd, wA (x := (m : Int)) (by omega) (by omega)]
    obtain ⟨n3, e3, l3⟩ := picked_spec (k := k) (by omega) x1 (m : Int) (h1.puts e6.sets) (n1 + 13) (by omega) (by omega)
    rw [e3]
    simp only [bind_some', asI_int, asB_bool, asStr_str, asP_ptr, asSl_sl, asAgg_1, asAgg_2, asAgg_3, asAgg_4, asTup_0, asTup_2, asTup_3, asTup_4, if_true', if_false', if_not_true', if_not_false', getD_0, getD_1, getD_2, getD_3]
    have q0 := Int.emod_nonneg x1 (show (m : Int) ≠ 0 by omega)
    have q1 := Int.emod_lt_of_pos x1 (show (0 : Int) < m by omega)
    obtain ⟨i, hi⟩ : ∃ i : Nat, x1 % (m : Int) = (i : Int) := ⟨(x1 % (m : Int)).toNat, by omega⟩
    rw [hi] at q0 q1 ⊢
    rw [wA (x := 4 * (i : Int)) (by omega) (by omega), show (4 * (i : Int)) = ((4 * i : Nat) : Int) by omega]
    rcases f3.2 with ⟨_, hn⟩ | ⟨yi, hy, hy0, hy1, hyb⟩
    · omega
    rw [hy]
    have xh : Ext h nx (h1.puts e6.sets) (n1 + 4 + 1) := ⟨by omega, fun j hj => by rw [f4.2 j (by omega), y1.2 j (by omega)]⟩
    have sx : Sl (h1.puts e6.sets) (n1 + 4 + 1) xa X.length 1 (ints .u8 X) := by rw [hXl]; exact o1.sl.ext f4
    have sx' : Sl h1 n1 xa X.length 1 (ints .u8 X) := by rw [hXl]; exact o1.sl
    have := changed_loop (k0 := k) k (m := m) (i := i) (X := X) (B := B) (by omega) (by omega) hXl (by omega) bX (ba := ba) false (xa := xa) xc e6.c (h0 := h1) (nx0 := n1) (yi := yi) hy0 ((show Sl h nx ba B.length 1 (ints .u8 B) from sB).ext ⟨by omega, fun j hj => y1.2 j (by omega)⟩) sx' (by omega) 4 k 0 X (h1.puts e6.sets) (n3 + 1) (by omega) (by omega) hXl bX rfl rfl ⟨by omega, f4.2⟩ (by omega) hyb
    rw [hXl] at this
    exact this

end Go.Proofs.Ytdjbhonncjcbjaa.T
