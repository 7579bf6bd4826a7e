/- First; the smallest place. -/
import Derived.Test.YtbekpkapkaifiaaE16
set_option linter.unusedVariables false
set_option linter.unusedSimpArgs false
namespace Go.Proofs.Ytbekpkapkaifiaa.T
open Go Go.RowKit Go.Proofs

def firstL (w : Nat) : List (Nat × Nat) → Option Nat
  | [] => none
  | r :: rs => if r.2 - r.1 ≥ w then some r.1 else firstL w rs
def firstA : Option Nat → Int × Int
  | none => (0, 6)
  | some r => ((r : Int), 0)

theorem runs_head (p : Int → Bool) : ∀ (xs : List Int) (k s : Nat), ∃ e rest, runsG p xs k (some s) = (s, e) :: rest ∧ k ≤ e
  | [], k, s => ⟨k, [], rfl, Nat.le_refl _⟩
  | x :: xs, k, s => by
    simp only [runsG]
    split
    · obtain ⟨e, rest, h1, h2⟩ := runs_head p xs (k + 1) s
      exact ⟨e, rest, h1, by omega⟩
    · exact ⟨k, _, rfl, Nat.le_refl _⟩
theorem find_first {n : Nat} (hn : 1 ≤ n) : ∀ (xs : List Int) (k cnt : Nat), cnt < n → cnt ≤ k →
    findL n xs k cnt = (firstL n (runsG (fun x => x == 0) xs k (if cnt = 0 then none else some (k - cnt)))).map (fun r => r + n)
  | [], k, cnt, h, hk => by
    by_cases c : cnt = 0
    · subst c; simp [findL, runsG, firstL]
    · rw [if_neg c]
      simp only [findL, runsG, firstL]
      rw [if_neg (by omega)]; rfl
  | x :: xs, k, cnt, h, hk => by
    simp only [findL]
    by_cases hx : x = 0
    · subst hx
      rw [if_pos rfl]
      have hr : runsG (fun x => x == 0) (0 :: xs) k (if cnt = 0 then none else some (k - cnt)) = runsG (fun x => x == 0) xs (k + 1) (some (k - cnt)) := by
        by_cases c : cnt = 0
        · subst c; simp [runsG]
        · rw [if_neg c]; simp [runsG]
      rw [hr]
      by_cases c : cnt + 1 = n
      · rw [if_pos c]
        obtain ⟨e, rest, h1, h2⟩ := runs_head (fun x => x == 0) xs (k + 1) (k - cnt)
        rw [h1]
        simp only [firstL]
        rw [if_pos (by omega)]
        simp only [Option.map_some, Option.some.injEq]; omega
      · rw [if_neg c, find_first hn xs (k + 1) (cnt + 1) (by omega) (by omega), if_neg (by omega), show k + 1 - (cnt + 1) = k - cnt by omega]
    · rw [if_neg hx, if_neg (by omega), find_first hn xs (k + 1) 0 (by omega) (by omega), if_pos rfl]
      by_cases c : cnt = 0
      · subst c; simp [runsG, hx]
      · rw [if_neg c]
        have hr : runsG (fun x => x == 0) (x :: xs) k (some (k - cnt)) = (k - cnt, k) :: runsG (fun x => x == 0) xs (k + 1) none := by simp [runsG, hx]
        rw [hr]
        simp only [firstL]
        rw [if_neg (by omega)]
theorem runs_bit : ∀ (xs : List Int) (k : Nat) (st : Option Nat), runsG (fun x => x == 0) (xs.map bit) k st = runsG (fun x => x == 0) xs k st
  | [], k, none => rfl
  | [], k, some s => rfl
  | x :: xs, k, none => by
    have hb : (bit x == 0) = (x == 0) := by
      unfold bit; by_cases h : x = 0
      · subst h; rfl
      · rw [if_neg h, beq_eq_false_iff_ne.2 h]; rfl
    simp only [List.map_cons, runsG, hb, runs_bit xs]
  | x :: xs, k, some s => by
    have hb : (bit x == 0) = (x == 0) := by
      unfold bit; by_cases h : x = 0
      · subst h; rfl
      · rw [if_neg h, beq_eq_false_iff_ne.2 h]; rfl
    simp only [List.map_cons, runsG, hb, runs_bit xs]

theorem first_loop {f : Nat} {Y : YldF} {h0 : AHeap} {n0 w : Nat} {xa : Option (Nat × Nat)} {xc : Bool} {rs : List (Nat × Nat)} (hx : Rows RgR h0 n0 none' xa 2 rs) (ok : MayOk rs) (hw : w ≤ 100000) (d : Nat) :
    ∀ (lf k : Nat) (h : AHeap) (nx : Nat), k + d = rs.length → d < lf → Ext h0 n0 h nx →
      ∃ h' nx', F31_L1 (callP Try.prog keepT f) Y f lf (w : Int) xa rs.length xc (rs.length : Int) (k : Int) h nx = some (.tuple [.int .i64 (firstA (firstL w (rs.drop k))).1, .int .i64 (firstA (firstL w (rs.drop k))).2], h', nx') ∧ Ext h0 n0 h' nx' := by
  obtain ⟨ok1, ok2, ok3⟩ := ok
  induction d with
  | zero =>
    intro lf k h nx e hlf x
    obtain ⟨lf, rfl⟩ : ∃ m, lf = m + 1 := ⟨lf - 1, by omega⟩
    obtain rfl : k = rs.length := by omega
    rw [F31_L1_eq, if_neg (by rw [decide_eq_true_eq]; omega), List.drop_length]
    exact ⟨_, _, rfl, by have := x.1; omega, x.2⟩
  | succ d ih =>
    intro lf k h nx e hlf x
    obtain ⟨lf, rfl⟩ : ∃ m, lf = m + 1 := ⟨lf - 1, by omega⟩
    have hk : k < rs.length := by omega
    have lx := x.1
    obtain ⟨r, pr, _, rd, _⟩ := (hx.go (x.fr none') (fun _ _ q => q) (fun _ _ q => q) (fun _ _ q => q) : Rows RgR h nx none' xa 2 rs).read (R := Res) (List.getElem?_eq_getElem hk)
    obtain ⟨o1, o2⟩ := ok1 _ (List.getElem_mem hk)
    rw [List.drop_eq_getElem_cons hk]
    generalize rs[k] = y at *
    simp only [RgR] at pr
    subst pr
    rw [F31_L1_eq, if_pos (decide_eq_true (by omega)), rd]
    simp only [bind_some', asI_int, asB_bool, asStr_str, asP_ptr, asSl_sl, asAgg_1, asAgg_2, asAgg_3, asAgg_4, asTup_0, asTup_2, asTup_3, asTup_4, if_true', if_false', if_not_true', if_not_false', getD_0, getD_1, getD_2, getD_3]
    rw [st_all (put_same h (nx + 3) _) (by simp) (by simp) (by simp [allOne, AV.one]), put_put]
    have x1 : Ext h nx (h.put (nx + 3) (some ⟨[.int .i64 (y.1 : Int), .int .i64 (y.2 : Int)], 2, true⟩)) (nx + 4) := ⟨by omega, fun i hi => put_ne (by omega)⟩
    have e4 := put_same h (nx + 3) (some ⟨[.int .i64 (y.1 : Int), .int .i64 (y.2 : Int)], 2, true⟩)
    generalize h.put (nx + 3) (some ⟨[.int .i64 (y.1 : Int), .int .i64 (y.2 : Int)], 2, true⟩) = h1 at *
    have x1' : ∀ m, nx + 4 ≤ m → Ext h0 n0 h1 m := fun m hm => ⟨by omega, fun i hi => (x1.2 i (by omega)).trans (x.2 i hi)⟩
    rw [ld_at e4 (v := .int .i64 (y.2 : Int)) rfl]
    simp only [bind_some', asI_int, asB_bool, asStr_str, asP_ptr, asSl_sl, asAgg_1, asAgg_2, asAgg_3, asAgg_4, asTup_0, asTup_2, asTup_3, asTup_4, if_true', if_false', if_not_true', if_not_false', getD_0, getD_1, getD_2, getD_3]
    rw [ld_at e4 (v := .int .i64 (y.1 : Int)) rfl]
    simp only [bind_some', asI_int, asB_bool, asStr_str, asP_ptr, asSl_sl, asAgg_1, asAgg_2, asAgg_3, asAgg_4, asTup_0, asTup_2, asTup_3, asTup_4, if_true', if_false', if_not_true', if_not_false', getD_0, getD_1, getD_2, getD_3]
    rw [show wrapA .i64 ((y.2 : Int) - (y.1 : Int)) = (y.2 : Int) - (y.1 : Int) from wA (by omega) (by omega)]
    simp only [firstL]
    by_cases c : y.2 - y.1 ≥ w
    · rw [if_pos (decide_eq_true (by omega)), if_pos c, ld_at e4 (v := .int .i64 (y.1 : Int)) rfl]
      simp only [bind_some', asI_int, asB_bool, asStr_str, asP_ptr, asSl_sl, asAgg_1, asAgg_2, asAgg_3, asAgg_4, asTup_0, asTup_2, asTup_3, asTup_4, if_true', if_false', if_not_true', if_not_false', getD_0, getD_1, getD_2, getD_3]
      exact ⟨_, _, rfl, x1' _ (by omega)⟩
    · rw [if_neg (by rw [decide_eq_true_eq]; omega), if_neg c, wsucc (by omega)]
      exact ih lf (k + 1) h1 (nx + 14) (by omega) (by omega) (x1' _ (by omega))

theorem first_spec {f : Nat} (hf : 220 ≤ f) (Y : YldF) {h0 : AHeap} {n0 : Nat} {xa : Option (Nat × Nat)} (xc : Bool) {rs : List (Nat × Nat)} (hx : Rows RgR h0 n0 none' xa 2 rs) (ok : MayOk rs) {w : Nat} (h1w : 1 ≤ w) (hw : w ≤ 100000) {n1 : Nat} (hn : n0 ≤ n1) :
    ∃ h' nx', callP Try.prog keepT f Y 31 [.slice xa rs.length xc, .int .i64 (w : Int)] h0 n1 = some (.tuple [.int .i64 (firstA (firstL w rs)).1, .int .i64 (firstA (firstL w rs)).2], h', nx') ∧ Ext h0 n1 h' nx' := by
  obtain ⟨f, rfl⟩ : ∃ m, f = m + 1 := ⟨f - 1, by omega⟩
  have := ok.2.2
  rw [F31_eq]
  have hx1 : Rows RgR h0 (n1 + 5) none' xa 2 rs := hx.go (D := none') ⟨by omega, fun _ _ _ => rfl⟩ (fun _ _ q => q) (fun _ _ q => q) (fun _ _ q => q)
  obtain ⟨h1, m1, g1, g2⟩ := may_spec (f := f) (by omega) Y xc hx1 ok (Nat.le_refl _)
  rw [g1]
  simp only [bind_some', asI_int, asB_bool, asStr_str, asP_ptr, asSl_sl, asAgg_1, asAgg_2, asAgg_3, asAgg_4, asTup_0, asTup_2, asTup_3, asTup_4, if_true', if_false', if_not_true', if_not_false', getD_0, getD_1, getD_2, getD_3]
  rw [if_neg (by rw [decide_eq_true_eq]; omega)]
  obtain ⟨h', nx', k1, k2⟩ := first_loop (f := f) (Y := Y) (xc := xc) (w := w) (hx1.go (g2.fr none') (fun _ _ q => q) (fun _ _ q => q) (fun _ _ q => q)) ok hw rs.length f 0 h1 (m1 + 5) (by omega) (by omega) ⟨by omega, fun _ _ => rfl⟩
  have l := g2.1
  have l2 := k2.1
  exact ⟨h', nx', k1, by omega, fun i hi => (k2.2 i (by omega)).trans (g2.2 i (by omega))⟩

end Go.Proofs.Ytbekpkapkaifiaa.T
