/- A log, replayed. -/
import Derived.Test.YtbekpkapkaifiaaE11
set_option linter.unusedVariables false
set_option linter.unusedSimpArgs false
namespace Go.Proofs.Ytbekpkapkaifiaa.T
open Go Go.RowKit Go.Proofs

def repS (R : List Int) (r : Bool × Int × Int) : Option (List Int) :=
  if r.2.1 < 0 ∨ r.2.1 ≥ r.2.2 ∨ r.2.2 > R.length then none
  else if ((R.drop r.2.1.toNat).take (r.2.2.toNat - r.2.1.toNat)).all (fun x => decide (x = if r.1 = true then 1 else 0)) = true then some (setR (if r.1 = true then 0 else 1) R r.2.1.toNat (r.2.2.toNat - r.2.1.toNat)) else none
def repL : List Int → List (Bool × Int × Int) → Option (List Int)
  | R, [] => some R
  | R, r :: rs => (repS R r).bind fun R' => repL R' rs
theorem repS_len {R R' : List Int} {r : Bool × Int × Int} (h : repS R r = some R') : R'.length = R.length := by
  unfold repS at h
  by_cases c : r.2.1 < 0 ∨ r.2.1 ≥ r.2.2 ∨ r.2.2 > R.length
  · rw [if_pos c] at h; cases h
  rw [if_neg c] at h
  by_cases ca : ((R.drop r.2.1.toNat).take (r.2.2.toNat - r.2.1.toNat)).all (fun x => decide (x = if r.1 = true then 1 else 0)) = true
  · rw [if_pos ca] at h
    have h := Option.some.inj h
    rw [← h, setR_len]
  · rw [if_neg ca] at h; cases h
theorem repL_app : ∀ (a b : List (Bool × Int × Int)) (R : List Int), repL R (a ++ b) = (repL R a).bind fun R' => repL R' b
  | [], b, R => rfl
  | r :: a, b, R => by
    simp only [List.cons_append, repL]
    cases repS R r with
    | none => rfl
    | some R' => simp only [Option.bind_some]; exact repL_app a b R'

theorem replay_step {f : Nat} {Y : YldF} {N : Nat} (hN : N ≤ 4096) (hf : N + 8 ≤ f) {h0 : AHeap} {n0 sp ub : Nat} {h : AHeap} {nx : Nat} {R R' : List Int} (w : Spc h nx sp ub none ⟨R, 0, []⟩) (hR : R.length = N) (x : Ext h0 n0 h nx) (hz : n0 ≤ sp ∧ n0 ≤ ub) {r : Bool × Int × Int} (hr : repS R r = some R') {jb : Nat} (ej : h jb = some ⟨[.bool r.1, .int .i64 r.2.1, .int .i64 r.2.2], 3, true⟩)
    {lf : Nat} {xa : Option (Nat × Nat)} {xn : Nat} {xc : Bool} {k : Nat} (hk : k ≤ 100000) {res : Option (AV × AHeap × Nat) → Prop}
    (next : ∀ h' nx', Ext h0 n0 h' nx' → Spc h' nx' sp ub none ⟨R', 0, []⟩ → res (F46_L1 (callP Try.prog keepT f) Y f lf (N : Int) (some (sp, 0)) xa xn xc (xn : Int) ((k + 1 : Nat) : Int) h' nx')) :
    res (F46_J2 (callP Try.prog keepT f) Y f lf (N : Int) (some (sp, 0)) (some (jb, 0)) (if r.1 = true then 1 else 0) (if r.1 = true then 0 else 1) xa xn xc (xn : Int) (k : Int) h nx) := by
  have lx := x.1
  unfold repS at hr
  by_cases c : r.2.1 < 0 ∨ r.2.1 ≥ r.2.2 ∨ r.2.2 > R.length
  · rw [if_pos c] at hr; simp at hr
  rw [if_neg c] at hr
  by_cases ca : ¬ ((R.drop r.2.1.toNat).take (r.2.2.toNat - r.2.1.toNat)).all (fun x => decide (x = if r.1 = true then 1 else 0)) = true
  · rw [if_neg ca] at hr; cases hr
  have ca := Classical.not_not.1 ca
  rw [if_pos ca] at hr
  simp only [Option.some.injEq] at hr
  obtain ⟨t, a, b⟩ := r
  simp only at ej c ca hr ⊢
  obtain ⟨a, rfl⟩ : ∃ m : Nat, a = (m : Int) := ⟨a.toNat, by omega⟩
  obtain ⟨b, rfl⟩ : ∃ m : Nat, b = (m : Int) := ⟨b.toNat, by omega⟩
  rw [Int.toNat_natCast, Int.toNat_natCast] at ca hr
  rw [F46_J2_eq]
  simp only [bind_some', asI_int, asB_bool, asStr_str, asP_ptr, asSl_sl, asAgg_1, asAgg_2, asAgg_3, asAgg_4, asTup_0, asTup_2, asTup_3, asTup_4, if_true', if_false', if_not_true', if_not_false', getD_0, getD_1, getD_2, getD_3]
  rw [ldr_at ej (by simp)]
  simp only [List.drop_succ_cons, List.drop_zero, List.take_succ_cons, List.take_zero, Nat.zero_add]
  simp only [bind_some', asI_int, asB_bool, asStr_str, asP_ptr, asSl_sl, asAgg_1, asAgg_2, asAgg_3, asAgg_4, asTup_0, asTup_2, asTup_3, asTup_4, if_true', if_false', if_not_true', if_not_false', getD_0, getD_1, getD_2, getD_3]
  rw [st_all (put_same h (nx + 2) _) (by simp) (by simp) (by simp [allOne, AV.one]), put_put]
  have x1 : Ext h nx (h.put (nx + 2) (some ⟨[.int .i64 (a : Int), .int .i64 (b : Int)], 2, true⟩)) (nx + 27) := ⟨by omega, fun i hi => put_ne (by omega)⟩
  have e1 := put_same h (nx + 2) (some ⟨[.int .i64 (a : Int), .int .i64 (b : Int)], 2, true⟩)
  generalize h.put (nx + 2) (some ⟨[.int .i64 (a : Int), .int .i64 (b : Int)], 2, true⟩) = h1 at *
  rw [ld_at e1 (v := .int .i64 (a : Int)) rfl]
  simp only [bind_some', asI_int, asB_bool, asStr_str, asP_ptr, asSl_sl, asAgg_1, asAgg_2, asAgg_3, asAgg_4, asTup_0, asTup_2, asTup_3, asTup_4, if_true', if_false', if_not_true', if_not_false', getD_0, getD_1, getD_2, getD_3]
  rw [if_neg (by rw [decide_eq_true_eq]; omega), ld_at e1 (v := .int .i64 (a : Int)) rfl]
  simp only [bind_some', asI_int, asB_bool, asStr_str, asP_ptr, asSl_sl, asAgg_1, asAgg_2, asAgg_3, asAgg_4, asTup_0, asTup_2, asTup_3, asTup_4, if_true', if_false', if_not_true', if_not_false', getD_0, getD_1, getD_2, getD_3]
  rw [ld_at e1 (v := .int .i64 (b : Int)) rfl]
  simp only [bind_some', asI_int, asB_bool, asStr_str, asP_ptr, asSl_sl, asAgg_1, asAgg_2, asAgg_3, asAgg_4, asTup_0, asTup_2, asTup_3, asTup_4, if_true', if_false', if_not_true', if_not_false', getD_0, getD_1, getD_2, getD_3]
  rw [if_neg (by rw [decide_eq_true_eq]; omega), ld_at e1 (v := .int .i64 (b : Int)) rfl]
  simp only [bind_some', asI_int, asB_bool, asStr_str, asP_ptr, asSl_sl, asAgg_1, asAgg_2, asAgg_3, asAgg_4, asTup_0, asTup_2, asTup_3, asTup_4, if_true', if_false', if_not_true', if_not_false', getD_0, getD_1, getD_2, getD_3]
  rw [if_neg (by rw [decide_eq_true_eq]; omega), ldr_all e1 (by simp)]
  simp only [bind_some', asI_int, asB_bool, asStr_str, asP_ptr, asSl_sl, asAgg_1, asAgg_2, asAgg_3, asAgg_4, asTup_0, asTup_2, asTup_3, asTup_4, if_true', if_false', if_not_true', if_not_false', getD_0, getD_1, getD_2, getD_3]
  obtain ⟨h2, n2, g1, g2⟩ := all_spec (f := f) (Y := Y) (w.ext x1) (a := a) (b := b) (by omega) (by simp only; omega) (by simp only; omega) (by simp only; omega) (if t = true then 1 else 0)
  simp only at g1
  rw [ca] at g1
  rw [g1]
  simp only [bind_some', asI_int, asB_bool, asStr_str, asP_ptr, asSl_sl, asAgg_1, asAgg_2, asAgg_3, asAgg_4, asTup_0, asTup_2, asTup_3, asTup_4, if_true', if_false', if_not_true', if_not_false', getD_0, getD_1, getD_2, getD_3]
  have l2 := g2.1
  rw [F46_J3_eq]
  simp only [bind_some', asI_int, asB_bool, asStr_str, asP_ptr, asSl_sl, asAgg_1, asAgg_2, asAgg_3, asAgg_4, asTup_0, asTup_2, asTup_3, asTup_4, if_true', if_false', if_not_true', if_not_false', getD_0, getD_1, getD_2, getD_3]
  rw [ldr_all ((g2.2 (nx + 2) (by omega)).trans e1) (by simp)]
  simp only [bind_some', asI_int, asB_bool, asStr_str, asP_ptr, asSl_sl, asAgg_1, asAgg_2, asAgg_3, asAgg_4, asTup_0, asTup_2, asTup_3, asTup_4, if_true', if_false', if_not_true', if_not_false', getD_0, getD_1, getD_2, getD_3]
  have x2 : Ext h nx h2 (n2 + 4) := ⟨by omega, fun i hi => (g2.2 i (by omega)).trans (x1.2 i hi)⟩
  obtain ⟨h3, n3, q1, q2, q3⟩ := set_spec (f := f) (Y := Y) (w.ext x2) (a := a) (b := b) (by omega) (by simp only; omega) (by simp only; omega) (by simp only; omega) (if t = true then 0 else 1)
  simp only at q1 q3
  rw [q1]
  simp only [bind_some', asI_int, asB_bool, asStr_str, asP_ptr, asSl_sl, asAgg_1, asAgg_2, asAgg_3, asAgg_4, asTup_0, asTup_2, asTup_3, asTup_4, if_true', if_false', if_not_true', if_not_false', getD_0, getD_1, getD_2, getD_3]
  have l3 := q2.1
  rw [wsucc (by omega)]
  rw [hr] at q3
  exact next _ _ ⟨by omega, fun i hi => by rw [q2.2 i (by omega) (by omega), x2.2 i (by omega), x.2 i hi]⟩ (q3.ext ⟨by omega, fun _ _ => rfl⟩)

def RepR (h0 : AHeap) (n0 : Nat) (R' : List Int) (r : Option (AV × AHeap × Nat)) : Prop :=
  ∃ sp ub h' nx', r = some (.tuple [.ptr (some (sp, 0)), .int .i64 0], h', nx') ∧ Ext h0 n0 h' nx' ∧ Spc h' nx' sp ub none ⟨R', 0, []⟩

theorem replay_loop {f : Nat} {Y : YldF} {N : Nat} (hN : N ≤ 4096) (hf : N + 8 ≤ f) {h0 : AHeap} {n0 sp ub : Nat} (hz : n0 ≤ sp ∧ n0 ≤ ub) {xa : Option (Nat × Nat)} {xc : Bool} {log : List (Bool × Int × Int)} (hx : Rows RecR h0 n0 none' xa 3 log) (hl : log.length ≤ 4096) {R' : List Int} (d : Nat) :
    ∀ (lf k : Nat) (R : List Int) (h : AHeap) (nx : Nat), k + d = log.length → d < lf → Ext h0 n0 h nx → Spc h nx sp ub none ⟨R, 0, []⟩ → R.length = N → repL R (log.drop k) = some R' →
      RepR h0 n0 R' (F46_L1 (callP Try.prog keepT f) Y f lf (N : Int) (some (sp, 0)) xa log.length xc (log.length : Int) (k : Int) h nx) := by
  induction d with
  | zero =>
    intro lf k R h nx e hlf x w hR hrep
    obtain ⟨lf, rfl⟩ : ∃ m, lf = m + 1 := ⟨lf - 1, by omega⟩
    obtain rfl : k = log.length := by omega
    rw [List.drop_length, repL] at hrep
    simp only [Option.some.injEq] at hrep
    subst hrep
    rw [F46_L1_eq, if_neg (by rw [decide_eq_true_eq]; omega)]
    exact ⟨_, _, _, _, rfl, ⟨by have := x.1; omega, x.2⟩, w.ext ⟨by omega, fun _ _ => rfl⟩⟩
  | succ d ih =>
    intro lf k R h nx e hlf x w hR hrep
    obtain ⟨lf, rfl⟩ : ∃ m, lf = m + 1 := ⟨lf - 1, by omega⟩
    have hk : k < log.length := by omega
    have lx := x.1
    obtain ⟨r, pr, _, rd, _⟩ := (hx.go (x.fr none') (fun _ _ q => q) (fun _ _ q => q) (fun _ _ q => q) : Rows RecR h nx none' xa 3 log).read (R := Res) (List.getElem?_eq_getElem hk)
    rw [List.drop_eq_getElem_cons hk, repL] at hrep
    generalize log[k] = y at *
    simp only [RecR] at pr
    subst pr
    cases hs : repS R y with
    | none => rw [hs] at hrep; simp at hrep
    | some R1 =>
      rw [hs, Option.bind_some] at hrep
      have hlen := repS_len hs
      rw [F46_L1_eq, if_pos (decide_eq_true (by omega)), rd]
      simp only [bind_some', asI_int, asB_bool, asStr_str, asP_ptr, asSl_sl, asAgg_1, asAgg_2, asAgg_3, asAgg_4, asTup_0, asTup_2, asTup_3, asTup_4, if_true', if_false', if_not_true', if_not_false', getD_0, getD_1, getD_2, getD_3]
      rw [st_all (put_same h (nx + 3) _) (by simp) (by simp) (by simp [allOne, AV.one]), put_put]
      have x1 : Ext h nx (h.put (nx + 3) (some ⟨[.bool y.1, .int .i64 y.2.1, .int .i64 y.2.2], 3, true⟩)) (nx + 4) := ⟨by omega, fun i hi => put_ne (by omega)⟩
      have e1 := put_same h (nx + 3) (some ⟨[.bool y.1, .int .i64 y.2.1, .int .i64 y.2.2], 3, true⟩)
      generalize h.put (nx + 3) (some ⟨[.bool y.1, .int .i64 y.2.1, .int .i64 y.2.2], 3, true⟩) = h1 at *
      rw [ld_at e1 (v := .bool y.1) rfl]
      simp only [bind_some', asI_int, asB_bool, asStr_str, asP_ptr, asSl_sl, asAgg_1, asAgg_2, asAgg_3, asAgg_4, asTup_0, asTup_2, asTup_3, asTup_4, if_true', if_false', if_not_true', if_not_false', getD_0, getD_1, getD_2, getD_3]
      have go : ∀ m, nx + 4 ≤ m → RepR h0 n0 R' (F46_J2 (callP Try.prog keepT f) Y f lf (N : Int) (some (sp, 0)) (some (nx + 3, 0)) (if y.1 = true then 1 else 0) (if y.1 = true then 0 else 1) xa log.length xc (log.length : Int) (k : Int) h1 m) := fun m hm =>
        replay_step (f := f) (Y := Y) hN hf (w.ext (⟨by omega, x1.2⟩ : Ext h nx h1 m)) hR ⟨by omega, fun i hi => (x1.2 i (by omega)).trans (x.2 i hi)⟩ hz hs e1 (by omega) (fun h' nx' q1 q2 => ih lf (k + 1) R1 h' nx' (by omega) (by omega) q1 q2 (by omega) hrep)
      cases ht : y.1 with
      | true => rw [if_true']; have := go (nx + 13) (by omega); rw [ht] at this; exact this
      | false => rw [if_false']; have := go (nx + 9) (by omega); rw [ht] at this; exact this

theorem replayed_spec {f : Nat} {Y : YldF} {N : Nat} (hN : N ≤ 4096) (h1N : 1 ≤ N) (hf : N + 4110 ≤ f) {h0 : AHeap} {n0 : Nat} {xa : Option (Nat × Nat)} (xc : Bool) {log : List (Bool × Int × Int)} (hx : Rows RecR h0 n0 none' xa 3 log) (hl : log.length ≤ 4096) {R' : List Int} (hrep : repL (List.replicate N 0) log = some R') :
    RepR h0 n0 R' (callP Try.prog keepT f Y 46 [.int .i64 (N : Int), .slice xa log.length xc] h0 n0) := by
  obtain ⟨f, rfl⟩ : ∃ m, f = m + 1 := ⟨f - 1, by omega⟩
  obtain ⟨g, rfl⟩ : ∃ m, f = m + 1 := ⟨f - 1, by omega⟩
  rw [F46_eq, F35_eq, if_pos (decide_eq_true (by omega))]
  simp only [bind_some', asI_int, asB_bool, asStr_str, asP_ptr, asSl_sl, asAgg_1, asAgg_2, asAgg_3, asAgg_4, asTup_0, asTup_2, asTup_3, asTup_4, if_true', if_false', if_not_true', if_not_false', getD_0, getD_1, getD_2, getD_3]
  rw [show decide ((N : Int) ≤ 4096) = true from decide_eq_true (by omega)]
  simp only [bind_some', asI_int, asB_bool, asStr_str, asP_ptr, asSl_sl, asAgg_1, asAgg_2, asAgg_3, asAgg_4, asTup_0, asTup_2, asTup_3, asTup_4, if_true', if_false', if_not_true', if_not_false', getD_0, getD_1, getD_2, getD_3]
  rw [if_neg (by rw [decide_eq_true_eq]; omega), if_pos (by simp; omega)]
  have hm : madeA [AV.int .u8 0] (Int.toNat (N : Int) * 1) = ints .u8 (List.replicate N 0) := by simp [madeA, ints]
  rw [hm, Int.toNat_natCast]
  obtain ⟨m, hmm⟩ : ∃ m, m = n0 + 5 + 8 := ⟨_, rfl⟩
  rw [← hmm]
  have x1 : Ext h0 n0 ((h0.put (m + 4) (some ⟨ints .u8 (List.replicate N 0), 1, true⟩)).put (m + 6) (some ⟨[.slice (some (m + 4, 0)) N ((N : Int) == (N : Int)), .int .i64 0, .slice none 0 false], 3, true⟩)) (m + 11) := ⟨by omega, fun i hi => by rw [put_ne (by omega), put_ne (by omega)]⟩
  have w : Spc ((h0.put (m + 4) (some ⟨ints .u8 (List.replicate N 0), 1, true⟩)).put (m + 6) (some ⟨[.slice (some (m + 4, 0)) N ((N : Int) == (N : Int)), .int .i64 0, .slice none 0 false], 3, true⟩)) (m + 11) (m + 6) (m + 4) none ⟨List.replicate N 0, 0, []⟩ := ⟨⟨(N : Int) == (N : Int), false, by rw [put_same]; simp⟩, by rw [put_ne (by omega), put_same], OwnRows.nil _ _ _ _, by omega, by omega, by omega, fun i q => (no_own q).elim⟩
  exact replay_loop (f := g + 1) hN (by omega) (by omega) (xc := xc) hx hl log.length (g + 1) 0 _ _ (m + 11) (by omega) (by omega) x1 w (by simp) (by simpa using hrep)

end Go.Proofs.Ytbekpkapkaifiaa.T
