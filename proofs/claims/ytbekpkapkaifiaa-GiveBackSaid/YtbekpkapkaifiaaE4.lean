/- A space in memory: take, give. -/
import Derived.Test.YtbekpkapkaifiaaE3
set_option linter.unusedVariables false
set_option linter.unusedSimpArgs false
namespace Go.Proofs.Ytbekpkapkaifiaa.T
open Go Go.RowKit Go.Proofs

def takeM (s : SP) (n : Nat) : Option Nat → SP × (Int × Int)
  | none => (s, (8, 0))
  | some e => (⟨setR 1 s.u (e - n) n, s.free - n, s.log ++ [(false, (e : Int) - n, (e : Int))]⟩, (0, (e : Int) - n))

theorem take_loop {f : Nat} {Y : YldF} {h : AHeap} {n0 sp ub rb : Nat} {la : Option (Nat × Nat)} {s : SP} (w : Spc h n0 sp ub la s) (hu : s.u.length ≤ 100000) (hl : s.log.length ≤ 2000000) (hf : s.u.length + 3 ≤ f) (hfr : -1000000 ≤ s.free ∧ s.free ≤ 1000000) (erb : h rb = some ⟨[.int .i64 0, .int .i64 0, .int .i64 0], 3, true⟩) (lr : rb < n0) (nr : rb ≠ sp ∧ rb ≠ ub ∧ ¬ ownOf la rb)
    {n : Nat} (hn : 1 ≤ n) {c : Bool} (d : Nat) :
    ∀ (lf k cnt nx : Nat), k + d = s.u.length → d < lf → n0 ≤ nx → cnt ≤ k →
      ∃ h' nx' la', F51_L2 (callP Try.prog keepT f) Y f lf (some (sp, 0)) (n : Int) (some (rb, 0)) (cnt : Int) (some (ub, 0)) s.u.length c (s.u.length : Int) (k : Int) h nx = some (.agg [.int .i64 (takeM s n (findL n (s.u.drop k) k cnt)).2.1, .int .i64 (takeM s n (findL n (s.u.drop k) k cnt)).2.2, .int .i64 0], h', nx') ∧
        Spc h' nx' sp ub la' (takeM s n (findL n (s.u.drop k) k cnt)).1 ∧ Frm (fun i => TS3 sp ub la i ∨ i = rb) h n0 h' nx' ∧ ∀ i, ownOf la' i → ownOf la i ∨ n0 ≤ i := by
  induction d with
  | zero =>
    intro lf k cnt nx e hlf hn0 hc
    obtain ⟨lf, rfl⟩ : ∃ m, lf = m + 1 := ⟨lf - 1, by omega⟩
    obtain rfl : k = s.u.length := by omega
    rw [F51_L2_eq, if_neg (by rw [decide_eq_true_eq]; omega)]
    simp only [bind_some', asI_int, asB_bool, asStr_str, asP_ptr, asSl_sl, asAgg_1, asAgg_2, asAgg_3, asAgg_4, asTup_0, asTup_2, asTup_3, asTup_4, if_true', if_false', if_not_true', if_not_false', getD_0, getD_1, getD_2, getD_3]
    rw [st_all erb (by simp) (by simp) (by simp [allOne, AV.one])]
    rw [ldr_all (put_same _ rb _) (by simp)]
    simp only [bind_some', asI_int, asB_bool, asStr_str, asP_ptr, asSl_sl, asAgg_1, asAgg_2, asAgg_3, asAgg_4, asTup_0, asTup_2, asTup_3, asTup_4, if_true', if_false', if_not_true', if_not_false', getD_0, getD_1, getD_2, getD_3]
    rw [List.drop_length]
    have ls := w.ls; have lu := w.lu
    obtain ⟨c5, lc5, e5⟩ := w.hd
    have f5 : Frm (fun i => i = rb) h n0 (h.put rb (some ⟨[.int .i64 8, .int .i64 0, .int .i64 0], 3, true⟩)) (nx + 3) := (Frm.refl _ _ _).put (.inl rfl) (by omega)
    exact ⟨_, _, la, rfl, ⟨⟨c5, lc5, (put_ne (fun q => nr.1 q.symm)).trans e5⟩, (put_ne (fun q => nr.2.1 q.symm)).trans w.hu, w.hl.go f5 (fun i q z => nr.2.2 (z ▸ q)) (fun _ _ q => q), by omega, by omega, w.ne, w.nl⟩, f5.more fun _ _ q => .inr q, fun i q => .inl q⟩
  | succ d ih =>
    intro lf k cnt nx e hlf hn0 hc
    obtain ⟨lf, rfl⟩ : ∃ m, lf = m + 1 := ⟨lf - 1, by omega⟩
    have hk : k < s.u.length := by omega
    have hdrop : s.u.drop k = s.u[k] :: s.u.drop (k + 1) := List.drop_eq_getElem_cons hk
    have hcell : (ints .u8 s.u)[k]? = some (.int .u8 s.u[k]) := by simp [ints, hk]
    generalize s.u[k] = y at *
    rw [F51_L2_eq, if_pos (decide_eq_true (by omega))]
    simp only [bind_some', asI_int, asB_bool, asStr_str, asP_ptr, asSl_sl, asAgg_1, asAgg_2, asAgg_3, asAgg_4, asTup_0, asTup_2, asTup_3, asTup_4, if_true', if_false', if_not_true', if_not_false', getD_0, getD_1, getD_2, getD_3]
    rw [if_pos ⟨by omega, by omega⟩, Nat.zero_add, Nat.mul_one, Int.toNat_natCast, ld_at w.hu hcell]
    simp only [bind_some', asI_int, asB_bool, asStr_str, asP_ptr, asSl_sl, asAgg_1, asAgg_2, asAgg_3, asAgg_4, asTup_0, asTup_2, asTup_3, asTup_4, if_true', if_false', if_not_true', if_not_false', getD_0, getD_1, getD_2, getD_3]
    rw [hdrop, findL]
    have go : ∀ (cnt' m : Nat), n0 ≤ m → cnt' ≤ k + 1 → ∃ h' nx' la', F51_J3 (callP Try.prog keepT f) Y f lf (some (sp, 0)) (n : Int) (some (rb, 0)) (cnt' : Int) (k : Int) (some (ub, 0)) s.u.length c (s.u.length : Int) (k : Int) h m = some (.agg [.int .i64 (takeM s n (if cnt' = n then some (k + 1) else findL n (s.u.drop (k + 1)) (k + 1) cnt')).2.1, .int .i64 (takeM s n (if cnt' = n then some (k + 1) else findL n (s.u.drop (k + 1)) (k + 1) cnt')).2.2, .int .i64 0], h', nx') ∧
        Spc h' nx' sp ub la' (takeM s n (if cnt' = n then some (k + 1) else findL n (s.u.drop (k + 1)) (k + 1) cnt')).1 ∧ Frm (fun i => TS3 sp ub la i ∨ i = rb) h n0 h' nx' ∧ ∀ i, ownOf la' i → ownOf la i ∨ n0 ≤ i := by
      intro cnt' m hm hc'
      by_cases ce : cnt' = n
      · rw [if_pos ce, ce]
        obtain ⟨h', nx', la', g1, g2, g3, g4⟩ := take_place (f := f) (Y := Y) (w.ext ⟨hm, fun _ _ => rfl⟩) hu hl hf hfr erb (by omega) nr hn (by omega) hk (lf := lf) (xa := some (ub, 0)) (xn := s.u.length) (xc := c) (x25 := (s.u.length : Int)) (x26 := (k : Int))
        exact ⟨h', nx', la', g1, g2, ⟨by have := g3.1; omega, fun i hi hd => g3.2 i (by omega) hd⟩, fun i q => by rcases g4 i q with q | q; exact .inl q; exact .inr (by omega)⟩
      · rw [if_neg ce, F51_J3_eq, if_neg (by rw [beq_iff_eq]; omega), wsucc (by omega)]
        exact ih lf (k + 1) cnt' (m + 5) (by omega) (by omega) (by omega) (by omega)
    by_cases cy : y = 0
    · rw [if_neg (by simp [cy]), if_pos cy, wsucc (by omega)]
      exact go (cnt + 1) _ (by omega) (by omega)
    · rw [if_pos (by simpa using cy), if_neg cy]
      exact go 0 _ (by omega) (by omega)

theorem takeS_eq {s : SP} {n : Nat} (h : 1 ≤ n) (h2 : n ≤ s.u.length) : takeS s (n : Int) = takeM s n (findL n s.u 0 0) := by
  unfold takeS
  rw [if_neg (by omega), Int.toNat_natCast]
  cases findL n s.u 0 0 <;> rfl

theorem take_spec {f : Nat} {Y : YldF} {h : AHeap} {nx sp ub : Nat} {la : Option (Nat × Nat)} {s : SP} (w : Spc h nx sp ub la s) (hu : s.u.length ≤ 100000) (hl : s.log.length ≤ 2000000) (hf : s.u.length + 4 ≤ f) (hfr : -1000000 ≤ s.free ∧ s.free ≤ 1000000) (n : Int) :
    ∃ h' nx', callP Try.prog keepT f Y 51 [.ptr (some (sp, 0)), .int .i64 n] h nx = some (.agg [.int .i64 (takeS s n).2.1, .int .i64 (takeS s n).2.2, .int .i64 0], h', nx') ∧ DeedR h nx sp ub la (takeS s n).1 h' nx' := by
  obtain ⟨f, rfl⟩ : ∃ m, f = m + 1 := ⟨f - 1, by omega⟩
  have ls := w.ls; have lu := w.lu
  obtain ⟨c, lc, e⟩ := w.hd
  rw [F51_eq]
  dsimp only
  have x1 : Ext h nx (h.put nx (some ⟨[.int .i64 0, .int .i64 0, .int .i64 0], 3, true⟩)) (nx + 1) := ⟨by omega, fun i hi => put_ne (by omega)⟩
  have e1 := put_same h nx (some ⟨[.int .i64 0, .int .i64 0, .int .i64 0], 3, true⟩)
  generalize h.put nx (some ⟨[.int .i64 0, .int .i64 0, .int .i64 0], 3, true⟩) = h1 at *
  have bad : n < 1 ∨ n > s.u.length → takeS s n = (s, (2, 0)) := fun q => by unfold takeS; rw [if_pos q]
  have x2 : Ext h nx (h1.put nx (some ⟨[.int .i64 2, .int .i64 0, .int .i64 0], 3, true⟩)) (nx + 14) := ⟨by omega, fun i hi => by rw [put_ne (by omega), x1.2 i hi]⟩
  by_cases c1 : n < 1
  · rw [if_pos (decide_eq_true c1), st_all e1 (by simp) (by simp) (by simp [allOne, AV.one])]
    rw [ldr_all (put_same _ nx _) (by simp)]
    simp only [bind_some', asI_int, asB_bool, asStr_str, asP_ptr, asSl_sl, asAgg_1, asAgg_2, asAgg_3, asAgg_4, asTup_0, asTup_2, asTup_3, asTup_4, if_true', if_false', if_not_true', if_not_false', getD_0, getD_1, getD_2, getD_3]
    rw [bad (.inl c1)]
    exact ⟨_, _, rfl, la, w.ext x2, x2.fr _, fun i q => .inl q⟩
  · rw [if_neg (by rw [decide_eq_true_eq]; exact c1)]
    simp only [bind_some', asI_int, asB_bool, asStr_str, asP_ptr, asSl_sl, asAgg_1, asAgg_2, asAgg_3, asAgg_4, asTup_0, asTup_2, asTup_3, asTup_4, if_true', if_false', if_not_true', if_not_false', getD_0, getD_1, getD_2, getD_3]
    rw [ld_at ((x1.2 _ ls).trans e) (v := .slice (some (ub, 0)) s.u.length c) rfl]
    simp only [bind_some', asI_int, asB_bool, asStr_str, asP_ptr, asSl_sl, asAgg_1, asAgg_2, asAgg_3, asAgg_4, asTup_0, asTup_2, asTup_3, asTup_4, if_true', if_false', if_not_true', if_not_false', getD_0, getD_1, getD_2, getD_3]
    by_cases c2 : n > s.u.length
    · rw [if_pos (decide_eq_true c2), st_all e1 (by simp) (by simp) (by simp [allOne, AV.one])]
      rw [ldr_all (put_same _ nx _) (by simp)]
      simp only [bind_some', asI_int, asB_bool, asStr_str, asP_ptr, asSl_sl, asAgg_1, asAgg_2, asAgg_3, asAgg_4, asTup_0, asTup_2, asTup_3, asTup_4, if_true', if_false', if_not_true', if_not_false', getD_0, getD_1, getD_2, getD_3]
      rw [bad (.inr c2)]
      exact ⟨_, _, rfl, la, w.ext x2, x2.fr _, fun i q => .inl q⟩
    · rw [if_neg (by rw [decide_eq_true_eq]; exact c2), F51_J1_eq]
      simp only [bind_some', asI_int, asB_bool, asStr_str, asP_ptr, asSl_sl, asAgg_1, asAgg_2, asAgg_3, asAgg_4, asTup_0, asTup_2, asTup_3, asTup_4, if_true', if_false', if_not_true', if_not_false', getD_0, getD_1, getD_2, getD_3]
      rw [ld_at ((x1.2 _ ls).trans e) (v := .slice (some (ub, 0)) s.u.length c) rfl]
      simp only [bind_some', asI_int, asB_bool, asStr_str, asP_ptr, asSl_sl, asAgg_1, asAgg_2, asAgg_3, asAgg_4, asTup_0, asTup_2, asTup_3, asTup_4, if_true', if_false', if_not_true', if_not_false', getD_0, getD_1, getD_2, getD_3]
      obtain ⟨m, rfl⟩ : ∃ m : Nat, n = (m : Int) := ⟨n.toNat, by omega⟩
      rw [takeS_eq (by omega) (by omega)]
      obtain ⟨h', nx', la', g1, g2, g3, g4⟩ := take_loop (f := f) (Y := Y) (w.ext x1) hu hl (by omega) hfr e1 (by omega) ⟨by omega, by omega, fun q => by have := w.hl.lt q; omega⟩ (n := m) (by omega) (c := c) s.u.length f 0 0 (nx + 12 + 7) (by omega) (by omega) (by omega) (by omega)
      rw [List.drop_zero] at g1 g2
      exact ⟨h', nx', g1, la', g2, ⟨by have := g3.1; omega, fun i hi hd => (g3.2 i (by omega) (fun q => by rcases q with q | q; exact hd q; omega)).trans (x1.2 i hi)⟩, fun i q => by rcases g4 i q with q | q; exact .inl q; exact .inr (by omega)⟩

def giveS (s : SP) (a n : Int) : SP × Int :=
  if a < 0 ∨ n < 1 ∨ n > s.u.length ∨ a > s.u.length - n then (s, 2)
  else if (((s.u.drop a.toNat).take n.toNat).all (fun x => decide (x = 1))) = true then (⟨setR 2 s.u a.toNat n.toNat, s.free, s.log⟩, 0) else (s, 6)

theorem give_spec {f : Nat} {Y : YldF} {h : AHeap} {nx sp ub : Nat} {la : Option (Nat × Nat)} {s : SP} (w : Spc h nx sp ub la s) (hu : s.u.length ≤ 100000) (hf : s.u.length + 5 ≤ f) (k a n : Int) :
    ∃ h' nx', callP Try.prog keepT f Y 52 [.ptr (some (sp, 0)), .agg [.int .i64 k, .int .i64 a, .int .i64 n]] h nx = some (.int .i64 (giveS s a n).2, h', nx') ∧ DeedR h nx sp ub la (giveS s a n).1 h' nx' := by
  obtain ⟨f, rfl⟩ : ∃ m, f = m + 1 := ⟨f - 1, by omega⟩
  have ls := w.ls; have lu := w.lu
  obtain ⟨c, lc, e⟩ := w.hd
  rw [F52_eq]
  dsimp only
  have x1 : Ext h nx (h.put nx (some ⟨[.int .i64 k, .int .i64 a, .int .i64 n], 3, true⟩)) (nx + 1) := ⟨by omega, fun i hi => put_ne (by omega)⟩
  have e1 := put_same h nx (some ⟨[.int .i64 k, .int .i64 a, .int .i64 n], 3, true⟩)
  generalize h.put nx (some ⟨[.int .i64 k, .int .i64 a, .int .i64 n], 3, true⟩) = h1 at *
  have es := (x1.2 _ ls).trans e
  have x2 : Ext h nx h1 (nx + 34) := ⟨by omega, x1.2⟩
  have bad : a < 0 ∨ n < 1 ∨ n > s.u.length ∨ a > s.u.length - n → giveS s a n = (s, 2) := fun q => by unfold giveS; rw [if_pos q]
  rw [ld_at e1 (v := .int .i64 a) rfl]
  simp only [bind_some', asI_int, asB_bool, asStr_str, asP_ptr, asSl_sl, asAgg_1, asAgg_2, asAgg_3, asAgg_4, asTup_0, asTup_2, asTup_3, asTup_4, if_true', if_false', if_not_true', if_not_false', getD_0, getD_1, getD_2, getD_3]
  by_cases c1 : a < 0
  · rw [if_pos (decide_eq_true c1), bad (.inl c1)]; exact ⟨_, _, rfl, la, w.ext x2, x2.fr _, fun i q => .inl q⟩
  rw [if_neg (by rw [decide_eq_true_eq]; exact c1), ld_at e1 (v := .int .i64 n) rfl]
  simp only [bind_some', asI_int, asB_bool, asStr_str, asP_ptr, asSl_sl, asAgg_1, asAgg_2, asAgg_3, asAgg_4, asTup_0, asTup_2, asTup_3, asTup_4, if_true', if_false', if_not_true', if_not_false', getD_0, getD_1, getD_2, getD_3]
  by_cases c2 : n < 1
  · rw [if_pos (decide_eq_true c2), bad (.inr (.inl c2))]; exact ⟨_, _, rfl, la, w.ext x2, x2.fr _, fun i q => .inl q⟩
  rw [if_neg (by rw [decide_eq_true_eq]; exact c2), ld_at e1 (v := .int .i64 n) rfl]
  simp only [bind_some', asI_int, asB_bool, asStr_str, asP_ptr, asSl_sl, asAgg_1, asAgg_2, asAgg_3, asAgg_4, asTup_0, asTup_2, asTup_3, asTup_4, if_true', if_false', if_not_true', if_not_false', getD_0, getD_1, getD_2, getD_3]
  rw [ld_at es (v := .slice (some (ub, 0)) s.u.length c) rfl]
  simp only [bind_some', asI_int, asB_bool, asStr_str, asP_ptr, asSl_sl, asAgg_1, asAgg_2, asAgg_3, asAgg_4, asTup_0, asTup_2, asTup_3, asTup_4, if_true', if_false', if_not_true', if_not_false', getD_0, getD_1, getD_2, getD_3]
  by_cases c3 : n > s.u.length
  · rw [if_pos (decide_eq_true c3), bad (.inr (.inr (.inl c3)))]; exact ⟨_, _, rfl, la, w.ext x2, x2.fr _, fun i q => .inl q⟩
  rw [if_neg (by rw [decide_eq_true_eq]; exact c3), ld_at e1 (v := .int .i64 a) rfl]
  simp only [bind_some', asI_int, asB_bool, asStr_str, asP_ptr, asSl_sl, asAgg_1, asAgg_2, asAgg_3, asAgg_4, asTup_0, asTup_2, asTup_3, asTup_4, if_true', if_false', if_not_true', if_not_false', getD_0, getD_1, getD_2, getD_3]
  rw [ld_at es (v := .slice (some (ub, 0)) s.u.length c) rfl]
  simp only [bind_some', asI_int, asB_bool, asStr_str, asP_ptr, asSl_sl, asAgg_1, asAgg_2, asAgg_3, asAgg_4, asTup_0, asTup_2, asTup_3, asTup_4, if_true', if_false', if_not_true', if_not_false', getD_0, getD_1, getD_2, getD_3]
  rw [ld_at e1 (v := .int .i64 n) rfl]
  simp only [bind_some', asI_int, asB_bool, asStr_str, asP_ptr, asSl_sl, asAgg_1, asAgg_2, asAgg_3, asAgg_4, asTup_0, asTup_2, asTup_3, asTup_4, if_true', if_false', if_not_true', if_not_false', getD_0, getD_1, getD_2, getD_3]
  rw [show wrapA .i64 ((s.u.length : Int) - n) = (s.u.length : Int) - n from wA (by omega) (by omega)]
  by_cases c4 : a > s.u.length - n
  · rw [if_pos (decide_eq_true c4), bad (.inr (.inr (.inr c4)))]; exact ⟨_, _, rfl, la, w.ext x2, x2.fr _, fun i q => .inl q⟩
  rw [if_neg (by rw [decide_eq_true_eq]; exact c4), F52_J1_eq]
  simp only [bind_some', asI_int, asB_bool, asStr_str, asP_ptr, asSl_sl, asAgg_1, asAgg_2, asAgg_3, asAgg_4, asTup_0, asTup_2, asTup_3, asTup_4, if_true', if_false', if_not_true', if_not_false', getD_0, getD_1, getD_2, getD_3]
  rw [ld_at e1 (v := .int .i64 a) rfl]
  simp only [bind_some', asI_int, asB_bool, asStr_str, asP_ptr, asSl_sl, asAgg_1, asAgg_2, asAgg_3, asAgg_4, asTup_0, asTup_2, asTup_3, asTup_4, if_true', if_false', if_not_true', if_not_false', getD_0, getD_1, getD_2, getD_3]
  rw [ld_at e1 (v := .int .i64 a) rfl]
  simp only [bind_some', asI_int, asB_bool, asStr_str, asP_ptr, asSl_sl, asAgg_1, asAgg_2, asAgg_3, asAgg_4, asTup_0, asTup_2, asTup_3, asTup_4, if_true', if_false', if_not_true', if_not_false', getD_0, getD_1, getD_2, getD_3]
  rw [ld_at e1 (v := .int .i64 n) rfl]
  simp only [bind_some', asI_int, asB_bool, asStr_str, asP_ptr, asSl_sl, asAgg_1, asAgg_2, asAgg_3, asAgg_4, asTup_0, asTup_2, asTup_3, asTup_4, if_true', if_false', if_not_true', if_not_false', getD_0, getD_1, getD_2, getD_3]
  obtain ⟨a, rfl⟩ : ∃ m : Nat, a = (m : Int) := ⟨a.toNat, by omega⟩
  obtain ⟨n, rfl⟩ : ∃ m : Nat, n = (m : Int) := ⟨n.toNat, by omega⟩
  rw [show wrapA .i64 ((a : Int) + (n : Int)) = ((a + n : Nat) : Int) by rw [wA (by omega) (by omega)]; omega]
  rw [st_all (put_same h1 (nx + 33 + 8) _) (by simp) (by simp) (by simp [allOne, AV.one]), put_put]
  rw [ldr_all (put_same h1 (nx + 33 + 8) _) (by simp)]
  simp only [bind_some', asI_int, asB_bool, asStr_str, asP_ptr, asSl_sl, asAgg_1, asAgg_2, asAgg_3, asAgg_4, asTup_0, asTup_2, asTup_3, asTup_4, if_true', if_false', if_not_true', if_not_false', getD_0, getD_1, getD_2, getD_3]
  have x3 : Ext h nx (h1.put (nx + 33 + 8) (some ⟨[.int .i64 (a : Int), .int .i64 ((a + n : Nat) : Int)], 2, true⟩)) (nx + 33 + 14) := ⟨by omega, fun i hi => by rw [put_ne (by omega), x1.2 i hi]⟩
  have e3 := put_same h1 (nx + 33 + 8) (some ⟨[.int .i64 (a : Int), .int .i64 ((a + n : Nat) : Int)], 2, true⟩)
  generalize h1.put (nx + 33 + 8) (some ⟨[.int .i64 (a : Int), .int .i64 ((a + n : Nat) : Int)], 2, true⟩) = h3 at *
  obtain ⟨h4, n4, g1, g2⟩ := all_spec (f := f) (Y := Y) (w.ext x3) (a := a) (b := a + n) (by omega) (by omega) hu (by omega) 1
  rw [g1]
  simp only [bind_some', asI_int, asB_bool, asStr_str, asP_ptr, asSl_sl, asAgg_1, asAgg_2, asAgg_3, asAgg_4, asTup_0, asTup_2, asTup_3, asTup_4, if_true', if_false', if_not_true', if_not_false', getD_0, getD_1, getD_2, getD_3]
  have l4 := g2.1
  have x4 : Ext h nx h4 n4 := ⟨by omega, fun i hi => (g2.2 i (by omega)).trans (x3.2 i hi)⟩
  have hg : giveS s (a : Int) (n : Int) = if (((s.u.drop a).take n).all (fun x => decide (x = 1))) = true then (⟨setR 2 s.u a n, s.free, s.log⟩, 0) else (s, 6) := by
    unfold giveS; rw [if_neg (by omega), Int.toNat_natCast, Int.toNat_natCast]
  rw [show a + n - a = n by omega, hg]
  cases hb : ((s.u.drop a).take n).all (fun x => decide (x = 1)) with
  | false =>
    rw [if_pos (by simp), if_neg (by simp)]
    exact ⟨_, _, rfl, la, w.ext ⟨by omega, x4.2⟩, Ext.fr (⟨by omega, x4.2⟩ : Ext h nx h4 (n4 + 1)) _, fun i q => .inl q⟩
  | true =>
    rw [if_neg (by simp), if_pos rfl, ldr_all ((g2.2 (nx + 33 + 8) (by omega)).trans e3) (by simp)]
    simp only [bind_some', asI_int, asB_bool, asStr_str, asP_ptr, asSl_sl, asAgg_1, asAgg_2, asAgg_3, asAgg_4, asTup_0, asTup_2, asTup_3, asTup_4, if_true', if_false', if_not_true', if_not_false', getD_0, getD_1, getD_2, getD_3]
    obtain ⟨h5, n5, k1, k2, k3⟩ := set_spec (f := f) (Y := Y) (w.ext (⟨by omega, x4.2⟩ : Ext h nx h4 (n4 + 3))) (a := a) (b := a + n) (by omega) (by omega) hu (by omega) 2
    rw [k1]
    simp only [bind_some', asI_int, asB_bool, asStr_str, asP_ptr, asSl_sl, asAgg_1, asAgg_2, asAgg_3, asAgg_4, asTup_0, asTup_2, asTup_3, asTup_4, if_true', if_false', if_not_true', if_not_false', getD_0, getD_1, getD_2, getD_3]
    have l5 := k2.1
    rw [show a + n - a = n by omega] at k3
    exact ⟨_, _, rfl, la, k3.ext ⟨by omega, fun _ _ => rfl⟩, ⟨by omega, fun i hi hd => (k2.2 i (by omega) (fun q => hd (.inr (.inl q)))).trans (x4.2 i hi)⟩, fun i q => .inl q⟩

end Go.Proofs.Ytbekpkapkaifiaa.T
