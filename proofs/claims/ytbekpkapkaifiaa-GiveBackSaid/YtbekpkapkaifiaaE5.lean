/- A space in memory: commit. -/
import Derived.Test.YtbekpkapkaifiaaE4
set_option linter.unusedVariables false
set_option linter.unusedSimpArgs false
namespace Go.Proofs.Ytbekpkapkaifiaa.T
open Go Go.RowKit Go.Proofs

def comS (s : SP) (r : Nat × Nat) : SP := ⟨setR 0 s.u r.1 (r.2 - r.1), s.free + ((r.2 : Int) - (r.1 : Int)), s.log ++ [(true, (r.1 : Int), (r.2 : Int))]⟩
def comL : SP → List (Nat × Nat) → SP
  | s, [] => s
  | s, r :: rs => comL (comS s r) rs
def ripe (x : Int) : Int := if x = 2 then 3 else x
def commitS (s : SP) : SP := ⟨(comL s (runsG (fun x => x == 3) s.u 0 none)).u.map ripe, (comL s (runsG (fun x => x == 3) s.u 0 none)).free, (comL s (runsG (fun x => x == 3) s.u 0 none)).log⟩

theorem runsG_ok (p : Int → Bool) : ∀ (xs : List Int) (k : Nat) (st : Option Nat), (∀ s, st = some s → s < k) → ∀ r ∈ runsG p xs k st, r.1 < r.2 ∧ r.2 ≤ k + xs.length
  | [], k, none, _, r, hr => by cases hr
  | [], k, some s, h, r, hr => by
    simp only [runsG, List.mem_singleton] at hr; subst hr
    exact ⟨h s rfl, by simp⟩
  | x :: xs, k, none, h, r, hr => by
    simp only [runsG] at hr
    split at hr
    · have := runsG_ok p xs (k + 1) (some k) (fun s e => by cases e; omega) r hr
      simp only [List.length_cons]; omega
    · have := runsG_ok p xs (k + 1) none (fun s e => by cases e) r hr
      simp only [List.length_cons]; omega
  | x :: xs, k, some s, h, r, hr => by
    simp only [runsG] at hr
    have hs := h s rfl
    split at hr
    · have := runsG_ok p xs (k + 1) (some s) (fun s' e => by cases e; omega) r hr
      simp only [List.length_cons]; omega
    · rcases List.mem_cons.1 hr with rfl | hr
      · simp only [List.length_cons]; omega
      · have := runsG_ok p xs (k + 1) none (fun s e => by cases e) r hr
        simp only [List.length_cons]; omega
theorem runsG_len (p : Int → Bool) : ∀ (xs : List Int) (k : Nat) (st : Option Nat), (runsG p xs k st).length ≤ xs.length + 1
  | [], k, none => by simp [runsG]
  | [], k, some s => by simp [runsG]
  | x :: xs, k, none => by
    simp only [runsG]
    split
    · have := runsG_len p xs (k + 1) (some k); simp only [List.length_cons]; omega
    · have := runsG_len p xs (k + 1) none; simp only [List.length_cons]; omega
  | x :: xs, k, some s => by
    simp only [runsG]
    split
    · have := runsG_len p xs (k + 1) (some s); simp only [List.length_cons]; omega
    · have := runsG_len p xs (k + 1) none; simp only [List.length_cons]; omega

/-- The last loop: what was given back since the last commit ripens. -/
theorem ripe_loop {f : Nat} {Y : YldF} {sp ub : Nat} {n : Nat} {c c' : Bool} {rest : List AV} (hne : sp ≠ ub) {h0 : AHeap} {n0 : Nat} (hub : ub < n0) (d : Nat) :
    ∀ (lf k : Nat) (u : List Int) (h : AHeap) (nx : Nat), k + d = u.length → d < lf → u.length ≤ 100000 → Frm (fun i => i = ub) h0 n0 h nx → u.length = n → h sp = some ⟨.slice (some (ub, 0)) n c :: rest, 3, true⟩ → h ub = some ⟨ints .u8 u, 1, true⟩ →
      ∃ h' nx', F53_L2 (callP Try.prog keepT f) Y f lf (some (sp, 0)) (some (ub, 0)) n c' (n : Int) (k : Int) h nx = some (.tuple [], h', nx') ∧ Frm (fun i => i = ub) h0 n0 h' nx' ∧ h' ub = some ⟨ints .u8 (u.take k ++ (u.drop k).map ripe), 1, true⟩ := by
  induction d with
  | zero =>
    intro lf k u h nx e hl hu fr hn hs hv
    obtain ⟨lf, rfl⟩ : ∃ m, lf = m + 1 := ⟨lf - 1, by omega⟩
    obtain rfl : k = u.length := by omega
    rw [F53_L2_eq, if_neg (by rw [decide_eq_true_eq]; omega)]
    exact ⟨_, _, rfl, fr.le (by omega), by rw [hv]; simp⟩
  | succ d ih =>
    intro lf k u h nx e hl hu fr hn hs hv
    obtain ⟨lf, rfl⟩ : ∃ m, lf = m + 1 := ⟨lf - 1, by omega⟩
    have hk : k < u.length := by omega
    have hcell : (ints .u8 u)[k]? = some (.int .u8 u[k]) := by simp [ints, hk]
    rw [F53_L2_eq, if_pos (decide_eq_true (by omega))]
    simp only [bind_some', asI_int, asB_bool, asStr_str, asP_ptr, asSl_sl, asAgg_1, asAgg_2, asAgg_3, asAgg_4, asTup_0, asTup_2, asTup_3, asTup_4, if_true', if_false', if_not_true', if_not_false', getD_0, getD_1, getD_2, getD_3]
    rw [if_pos ⟨by omega, by omega⟩, Nat.zero_add, Nat.mul_one, Int.toNat_natCast, ld_at hv hcell]
    simp only [bind_some', asI_int, asB_bool, asStr_str, asP_ptr, asSl_sl, asAgg_1, asAgg_2, asAgg_3, asAgg_4, asTup_0, asTup_2, asTup_3, asTup_4, if_true', if_false', if_not_true', if_not_false', getD_0, getD_1, getD_2, getD_3]
    have tk : ∀ v : Int, (u.set k v).take (k + 1) = u.take k ++ [v] := fun v => by rw [List.take_add_one, List.take_set_of_le (Nat.le_refl k), List.getElem?_set_self (by omega)]; rfl
    have dk : ∀ v : Int, (u.set k v).drop (k + 1) = u.drop (k + 1) := fun v => List.drop_set_of_lt (by omega)
    by_cases c2 : u[k] = 2
    · rw [if_pos (by simp [c2]), ld_at hs (v := .slice (some (ub, 0)) n c) rfl]
      simp only [bind_some', asI_int, asB_bool, asStr_str, asP_ptr, asSl_sl, asAgg_1, asAgg_2, asAgg_3, asAgg_4, asTup_0, asTup_2, asTup_3, asTup_4, if_true', if_false', if_not_true', if_not_false', getD_0, getD_1, getD_2, getD_3]
      rw [if_pos ⟨by omega, by omega⟩, Nat.zero_add, st_one hv rfl (by simp [ints]; omega)]
      rw [wsucc (by omega)]
      have hset : (ints .u8 u).set k (.int .u8 3) = ints .u8 (u.set k 3) := by unfold ints; rw [List.map_set]
      rw [hset]
      obtain ⟨h', nx', g1, g2, g3⟩ := ih lf (k + 1) (u.set k 3) (h.put ub (some ⟨ints .u8 (u.set k 3), 1, true⟩)) (nx + 17) (by simp; omega) (by omega) (by simpa using hu) (fr.put (.inl rfl) (by omega)) (by simpa using hn) ((put_ne hne).trans hs) (put_same _ _ _)
      refine ⟨h', nx', g1, g2, ?_⟩
      rw [g3, tk, dk, List.drop_eq_getElem_cons hk]
      simp [ripe, c2]
    · rw [if_neg (by simpa using c2), wsucc (by omega)]
      obtain ⟨h', nx', g1, g2, g3⟩ := ih lf (k + 1) u h (nx + 10) (by omega) (by omega) hu (fr.le (by omega)) hn hs hv
      refine ⟨h', nx', g1, g2, ?_⟩
      have hr : ripe u[k] = u[k] := by unfold ripe; rw [if_neg c2]
      rw [g3, List.take_add_one, List.getElem?_eq_getElem hk, List.drop_eq_getElem_cons hk, List.map_cons, hr, List.append_assoc]; rfl

theorem com_loop {f : Nat} {Y : YldF} {h0 : AHeap} {n0 sp ub : Nat} {ra : Option (Nat × Nat)} {rc : Bool} {rs : List (Nat × Nat)} (ow : OwnRows RgR h0 n0 ra 2 rs) (hrs : rs.length ≤ 100000) {L : Nat} (hL : L ≤ 100000) (hf : L + 4 ≤ f) (ok : ∀ r ∈ rs, r.1 < r.2 ∧ r.2 ≤ L) {la0 : Option (Nat × Nat)} (nr : ∀ i, ownOf ra i → ¬ TS3 sp ub la0 i) (hla0 : ∀ i, TS3 sp ub la0 i → i < n0) (d : Nat) :
    ∀ (lf k : Nat) (la : Option (Nat × Nat)) (s : SP) (h : AHeap) (nx : Nat), k + d = rs.length → d < lf → Frm (TS3 sp ub la0) h0 n0 h nx → Spc h nx sp ub la s → s.u.length = L → (∀ i, ownOf la i → ownOf la0 i ∨ n0 ≤ i) → s.log.length + d ≤ 2000000 → (-1000000 ≤ s.free - k * 100000 ∧ s.free + (d : Int) * 100000 ≤ 100000000000) ∨ (-100000000000 ≤ s.free ∧ s.free + (d : Int) * 100000 ≤ 100000000000) →
      ∃ h' nx' la', F53_L1 (callP Try.prog keepT f) Y f lf (some (sp, 0)) ra rs.length rc (rs.length : Int) (k : Int) h nx = some (.tuple [], h', nx') ∧ Frm (TS3 sp ub la0) h0 n0 h' nx' ∧
        Spc h' nx' sp ub la' ⟨(comL s (rs.drop k)).u.map ripe, (comL s (rs.drop k)).free, (comL s (rs.drop k)).log⟩ ∧ (∀ i, ownOf la' i → ownOf la0 i ∨ n0 ≤ i) := by
  induction d with
  | zero =>
    intro lf k la s h nx e hl fr w hs hla hlog _
    obtain ⟨lf, rfl⟩ : ∃ m, lf = m + 1 := ⟨lf - 1, by omega⟩
    obtain rfl : k = rs.length := by omega
    obtain ⟨c, lc, e0⟩ := w.hd
    have ls := w.ls; have lu := w.lu
    rw [F53_L1_eq, if_neg (by rw [decide_eq_true_eq]; omega)]
    simp only [bind_some', asI_int, asB_bool, asStr_str, asP_ptr, asSl_sl, asAgg_1, asAgg_2, asAgg_3, asAgg_4, asTup_0, asTup_2, asTup_3, asTup_4, if_true', if_false', if_not_true', if_not_false', getD_0, getD_1, getD_2, getD_3]
    rw [ld_at e0 (v := .slice (some (ub, 0)) s.u.length c) rfl]
    simp only [bind_some', asI_int, asB_bool, asStr_str, asP_ptr, asSl_sl, asAgg_1, asAgg_2, asAgg_3, asAgg_4, asTup_0, asTup_2, asTup_3, asTup_4, if_true', if_false', if_not_true', if_not_false', getD_0, getD_1, getD_2, getD_3]
    obtain ⟨h', nx', g1, g2, g3⟩ := ripe_loop (f := f) (Y := Y) (c' := c) w.ne (h0 := h) (n0 := nx) lu s.u.length f 0 s.u h (nx + 7) (by omega) (by omega) (by omega) ⟨by omega, fun _ _ _ => rfl⟩ rfl e0 w.hu
    rw [List.drop_length]
    have l := g2.1
    refine ⟨h', nx', la, g1, fr.trans g2 (fun i _ q => .inr (.inl q)), ⟨⟨c, lc, ?_⟩, ?_, w.hl.go g2 (fun i q => (w.nl i q).2) (fun _ _ q => q), by omega, by omega, w.ne, w.nl⟩, hla⟩
    · simp only [comL, List.length_map]; exact (g2.2 sp ls w.ne).trans e0
    · simp only [comL]; rw [g3]; simp
  | succ d ih =>
    intro lf k la s h nx e hl fr w hs hla hlog hfr
    obtain ⟨lf, rfl⟩ : ∃ m, lf = m + 1 := ⟨lf - 1, by omega⟩
    have hk : k < rs.length := by omega
    have ls := w.ls; have lu := w.lu; have lnx := fr.1
    obtain ⟨o1, o2⟩ := ok _ (List.getElem_mem hk)
    have hdrop : rs.drop k = rs[k] :: rs.drop (k + 1) := List.drop_eq_getElem_cons hk
    obtain ⟨r, pr, _, rd, _⟩ := ((ow.go fr nr (fun _ _ q => q)).rows (A := fun _ => False) (fun _ _ q => q)).read (R := Res) (List.getElem?_eq_getElem hk)
    generalize rs[k] = y at *
    obtain ⟨a, b⟩ := y
    simp only at o1 o2
    simp only [RgR] at pr
    subst pr
    rw [F53_L1_eq, if_pos (decide_eq_true (by omega)), rd]
    simp only [bind_some', asI_int, asB_bool, asStr_str, asP_ptr, asSl_sl, asAgg_1, asAgg_2, asAgg_3, asAgg_4, asTup_0, asTup_2, asTup_3, asTup_4, if_true', if_false', if_not_true', if_not_false', getD_0, getD_1, getD_2, getD_3]
    rw [st_all (put_same h (nx + 3) _) (by simp) (by simp) (by simp [allOne, AV.one]), put_put]
    rw [ldr_all (put_same h (nx + 3) _) (by simp)]
    simp only [bind_some', asI_int, asB_bool, asStr_str, asP_ptr, asSl_sl, asAgg_1, asAgg_2, asAgg_3, asAgg_4, asTup_0, asTup_2, asTup_3, asTup_4, if_true', if_false', if_not_true', if_not_false', getD_0, getD_1, getD_2, getD_3]
    have x1 : Ext h nx (h.put (nx + 3) (some ⟨[.int .i64 (a : Int), .int .i64 (b : Int)], 2, true⟩)) (nx + 8) := ⟨by omega, fun i hi => put_ne (by omega)⟩
    have e3 := put_same h (nx + 3) (some ⟨[.int .i64 (a : Int), .int .i64 (b : Int)], 2, true⟩)
    generalize h.put (nx + 3) (some ⟨[.int .i64 (a : Int), .int .i64 (b : Int)], 2, true⟩) = h1 at *
    obtain ⟨h2, n2, g1, g2, g3⟩ := set_spec (f := f) (Y := Y) (w.ext x1) (a := a) (b := b) (by omega) (by omega) (by omega) (by omega) 0
    rw [g1]
    simp only [bind_some', asI_int, asB_bool, asStr_str, asP_ptr, asSl_sl, asAgg_1, asAgg_2, asAgg_3, asAgg_4, asTup_0, asTup_2, asTup_3, asTup_4, if_true', if_false', if_not_true', if_not_false', getD_0, getD_1, getD_2, getD_3]
    have l2 := g2.1
    obtain ⟨c2, lc2, e2⟩ := g3.hd
    rw [ld_at e2 (v := .int .i64 s.free) rfl]
    simp only [bind_some', asI_int, asB_bool, asStr_str, asP_ptr, asSl_sl, asAgg_1, asAgg_2, asAgg_3, asAgg_4, asTup_0, asTup_2, asTup_3, asTup_4, if_true', if_false', if_not_true', if_not_false', getD_0, getD_1, getD_2, getD_3]
    have e3' := (g2.2 (nx + 3) (by omega) (by omega)).trans e3
    rw [ld_at e3' (v := .int .i64 (b : Int)) rfl]
    simp only [bind_some', asI_int, asB_bool, asStr_str, asP_ptr, asSl_sl, asAgg_1, asAgg_2, asAgg_3, asAgg_4, asTup_0, asTup_2, asTup_3, asTup_4, if_true', if_false', if_not_true', if_not_false', getD_0, getD_1, getD_2, getD_3]
    rw [ld_at e3' (v := .int .i64 (a : Int)) rfl]
    simp only [bind_some', asI_int, asB_bool, asStr_str, asP_ptr, asSl_sl, asAgg_1, asAgg_2, asAgg_3, asAgg_4, asTup_0, asTup_2, asTup_3, asTup_4, if_true', if_false', if_not_true', if_not_false', getD_0, getD_1, getD_2, getD_3]
    have fb : -100000000000 ≤ s.free ∧ s.free ≤ 100000000000 := by omega
    rw [show wrapA .i64 ((b : Int) - (a : Int)) = (b : Int) - (a : Int) from wA (by omega) (by omega), show wrapA .i64 (s.free + ((b : Int) - (a : Int))) = s.free + ((b : Int) - (a : Int)) from wA (by omega) (by omega)]
    obtain ⟨b3, q1, q2, q3⟩ := g3.free' (s.free + ((b : Int) - (a : Int)))
    rw [q1]
    have e3'' : (h2.put sp (some b3)) (nx + 3) = _ := (q3.2 _ (by omega) (by omega)).trans e3'
    have fr3 : Frm (fun i => i = sp ∨ i = ub) h nx (h2.put sp (some b3)) n2 := ((x1.fr _).trans (g2.more fun _ _ q => .inr q) (fun _ _ q => q)).trans (q3.more fun _ _ q => .inl q) (fun _ _ q => q)
    generalize h2.put sp (some b3) = h3 at *
    obtain ⟨lc, r1, e4, b4, r2, r3, r4, r5, r6, r7⟩ := q2.push (by simp only; omega) (true, (a : Int), (b : Int)) (id := n2 + 20) (id2 := n2 + 21) (by omega) (by omega)
    rw [r1]
    simp only [bind_some', asI_int, asB_bool, asStr_str, asP_ptr, asSl_sl, asAgg_1, asAgg_2, asAgg_3, asAgg_4, asTup_0, asTup_2, asTup_3, asTup_4, if_true', if_false', if_not_true', if_not_false', getD_0, getD_1, getD_2, getD_3]
    rw [ldr_all e3'' (by simp)]
    simp only [bind_some', asI_int, asB_bool, asStr_str, asP_ptr, asSl_sl, asAgg_1, asAgg_2, asAgg_3, asAgg_4, asTup_0, asTup_2, asTup_3, asTup_4, if_true', if_false', if_not_true', if_not_false', getD_0, getD_1, getD_2, getD_3]
    rw [r2]
    simp only [bind_some', asI_int, asB_bool, asStr_str, asP_ptr, asSl_sl, asAgg_1, asAgg_2, asAgg_3, asAgg_4, asTup_0, asTup_2, asTup_3, asTup_4, if_true', if_false', if_not_true', if_not_false', getD_0, getD_1, getD_2, getD_3]
    rw [r3]
    simp only [bind_some', asI_int, asB_bool, asStr_str, asP_ptr, asSl_sl, asAgg_1, asAgg_2, asAgg_3, asAgg_4, asTup_0, asTup_2, asTup_3, asTup_4, if_true', if_false', if_not_true', if_not_false', getD_0, getD_1, getD_2, getD_3]
    rw [r4]
    have aa : AllApart [([n2 + 20], [sp])] := ⟨fun x hx hx2 => by simp only [List.mem_singleton] at hx hx2; omega, trivial⟩
    rw [ifApart_pos aa, wsucc (by omega)]
    generalize (((h3.put (n2 + 20) (some ⟨[.bool true, .int .i64 (a : Int), .int .i64 (b : Int)], 3, true⟩)).puts e4.sets).put sp (some b4)) = h5 at *
    have fr5 : Frm (TS3 sp ub la0) h0 n0 h5 (n2 + 27) := by
      refine Frm.le ?_ (show n2 + 21 + 1 ≤ n2 + 27 by omega)
      refine (fr.trans fr3 (fun i _ q => by rcases q with q | q; exact .inl q; exact .inr (.inl q))).trans r6 (fun i hi q => ?_)
      rcases q with q | q
      · exact .inl q
      · rcases hla i q with q | q
        · exact .inr (.inr q)
        · omega
    have w5 : Spc h5 (n2 + 27) sp ub e4.a (comS s (a, b)) := r5.ext ⟨by omega, fun _ _ => rfl⟩
    obtain ⟨h', nx', la', z1, z2, z3, z4⟩ := ih lf (k + 1) e4.a (comS s (a, b)) h5 (n2 + 27) (by omega) (by omega) fr5 w5 (by simp only [comS]; rw [setR_len]; exact hs) (fun i q => .inr (by have := r7 i q; omega)) (by simp only [comS, List.length_append, List.length_singleton]; omega) (.inr (by simp only [comS]; omega))
    refine ⟨h', nx', la', z1, z2, ?_, z4⟩
    rw [hdrop]
    exact z3

theorem commit_spec {f : Nat} {Y : YldF} {h : AHeap} {nx sp ub : Nat} {la : Option (Nat × Nat)} {s : SP} (w : Spc h nx sp ub la s) (hu : s.u.length ≤ 5000) (hl : s.log.length ≤ 1900000) (hf : s.u.length + 6 ≤ f) (hfr : -1000000 ≤ s.free ∧ s.free ≤ 1000000) :
    ∃ h' nx', callP Try.prog keepT f Y 53 [.ptr (some (sp, 0))] h nx = some (.tuple [], h', nx') ∧ DeedR h nx sp ub la (commitS s) h' nx' := by
  obtain ⟨f, rfl⟩ : ∃ m, f = m + 1 := ⟨f - 1, by omega⟩
  have ls := w.ls; have lu := w.lu
  rw [F53_eq]
  have x1 : Ext h nx h (nx + 4) := ⟨by omega, fun _ _ => rfl⟩
  obtain ⟨a, c, h1, n1, g1, g2, g3, g4⟩ := runs_spec (f := f) (Y := Y) (w.ext x1) (by omega) (by omega) (cf := .fn 63 [] []) (p := fun x => x == 3) (fun x h nx => by
    obtain ⟨f', rfl⟩ : ∃ m, f = m + 2 := ⟨f - 2, by omega⟩
    exact ⟨nx + 4, by omega, _, _, _, asCal_fn _ _ _, by rw [callC_fn]; exact F63_eq _ _ _ _ _⟩)
  rw [g1]
  simp only [bind_some', asI_int, asB_bool, asStr_str, asP_ptr, asSl_sl, asAgg_1, asAgg_2, asAgg_3, asAgg_4, asTup_0, asTup_2, asTup_3, asTup_4, if_true', if_false', if_not_true', if_not_false', getD_0, getD_1, getD_2, getD_3]
  have rok := runsG_ok (fun x => x == 3) s.u 0 none (fun s e => by cases e)
  have rlen := runsG_len (fun x => x == 3) s.u 0 none
  have hT : ∀ i, TS3 sp ub la i → i < nx := fun i q => by rcases q with q | q | q; omega; omega; exact w.hl.lt q
  have l1 := g2.1
  obtain ⟨h', nx', la', z1, z2, z3, z4⟩ := com_loop (f := f) (Y := Y) (rc := c) (sp := sp) (ub := ub) g3 (by omega) (L := s.u.length) (by omega) (by omega) (fun r hr => by have := rok r hr; omega) (la0 := la) (fun i q t => by have := g4 i q; have := hT i t; omega) (fun i q => by have := hT i q; omega) (runsG (fun x => x == 3) s.u 0 none).length f 0 la s h1 n1 (by omega) (by omega) (Frm.refl _ _ _) (w.ext ⟨by omega, fun i hi => g2.2 i (by omega)⟩) rfl (fun i q => .inl q) (by omega) (.inr (by omega))
  rw [List.drop_zero] at z3
  exact ⟨h', nx', z1, la', z3, ⟨by have := z2.1; omega, fun i hi hd => (z2.2 i (by omega) hd).trans (g2.2 i (by omega))⟩, fun i q => by rcases z4 i q with q | q; exact .inl q; exact .inr (by omega)⟩

end Go.Proofs.Ytbekpkapkaifiaa.T
