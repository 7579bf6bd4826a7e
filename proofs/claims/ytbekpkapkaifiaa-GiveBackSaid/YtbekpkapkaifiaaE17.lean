/- Size, sameRanges; what the condensed log tells. -/
import Derived.Test.YtbekpkapkaifiaaE16
set_option linter.unusedVariables false
set_option linter.unusedSimpArgs false
namespace Go.Proofs.Ytbekpkapkaifiaa.T
open Go Go.RowKit Go.Proofs

def szL : List (Nat × Nat) → Nat
  | [] => 0
  | r :: rs => (r.2 - r.1) + szL rs
theorem szL_app : ∀ (a b : List (Nat × Nat)), szL (a ++ b) = szL a + szL b
  | [], b => by simp [szL]
  | r :: a, b => by simp only [List.cons_append, szL]; rw [szL_app a b]; omega
theorem szL_le {B : Nat} : ∀ {rs : List (Nat × Nat)}, (∀ r ∈ rs, r.1 < r.2 ∧ r.2 ≤ B) → szL rs ≤ rs.length * B
  | [], _ => by simp [szL]
  | r :: rs, h => by
    have h1 := h r List.mem_cons_self
    have h2 := szL_le (fun x hx => h x (List.mem_cons_of_mem _ hx)) (rs := rs)
    simp only [szL, List.length_cons, Nat.add_mul]; omega

theorem size_loop {f : Nat} {Y : YldF} {h0 : AHeap} {n0 : Nat} {xa : Option (Nat × Nat)} {xc : Bool} {rs : List (Nat × Nat)} (hx : Rows RgR h0 n0 none' xa 2 rs) (ok : MayOk rs) (d : Nat) :
    ∀ (lf k : Nat) (h : AHeap) (nx : Nat), k + d = rs.length → d < lf → Ext h0 n0 h nx →
      ∃ h' nx', F33_L1 (callP Try.prog keepT f) Y f lf (szL (rs.take k) : Int) xa rs.length xc (rs.length : Int) (k : Int) h nx = some (.int .i64 (szL rs : Int), h', nx') ∧ Ext h0 n0 h' nx' := by
  obtain ⟨ok1, ok2, ok3⟩ := ok
  induction d with
  | zero =>
    intro lf k h nx e hlf x
    obtain ⟨lf, rfl⟩ : ∃ m, lf = m + 1 := ⟨lf - 1, by omega⟩
    obtain rfl : k = rs.length := by omega
    rw [F33_L1_eq, if_neg (by rw [decide_eq_true_eq]; omega), List.take_length]
    exact ⟨_, _, rfl, by have := x.1; omega, x.2⟩
  | succ d ih =>
    intro lf k h nx e hlf x
    obtain ⟨lf, rfl⟩ : ∃ m, lf = m + 1 := ⟨lf - 1, by omega⟩
    have hk : k < rs.length := by omega
    have lx := x.1
    obtain ⟨r, pr, _, rd, _⟩ := (hx.go (x.fr none') (fun _ _ q => q) (fun _ _ q => q) (fun _ _ q => q) : Rows RgR h nx none' xa 2 rs).read (R := Res) (List.getElem?_eq_getElem hk)
    obtain ⟨o1, o2⟩ := ok1 _ (List.getElem_mem hk)
    have hsz : szL (rs.take k) ≤ 200 * 1048576 := by
      have h1 := szL_le (rs := rs.take k) (B := 1048576) (fun r hr => ok1 r (List.mem_of_mem_take hr))
      have h2 : (rs.take k).length ≤ 200 := by rw [List.length_take]; omega
      exact Nat.le_trans h1 (Nat.mul_le_mul_right 1048576 h2)
    have htk : szL (rs.take (k + 1)) = szL (rs.take k) + (rs[k].2 - rs[k].1) := by rw [List.take_add_one, List.getElem?_eq_getElem hk, szL_app]; simp [szL]
    generalize rs[k] = y at *
    simp only [RgR] at pr
    subst pr
    rw [F33_L1_eq, if_pos (decide_eq_true (by omega)), rd]
    simp only [bind_some', asI_int, asB_bool, asStr_str, asP_ptr, asSl_sl, asAgg_1, asAgg_2, asAgg_3, asAgg_4, asTup_0, asTup_2, asTup_3, asTup_4, if_true', if_false', if_not_true', if_not_false', getD_0, getD_1, getD_2, getD_3]
    rw [st_all (put_same h (nx + 3) _) (by simp) (by simp) (by simp [allOne, AV.one]), put_put]
    have x1 : Ext h nx (h.put (nx + 3) (some ⟨[.int .i64 (y.1 : Int), .int .i64 (y.2 : Int)], 2, true⟩)) (nx + 15) := ⟨by omega, fun i hi => put_ne (by omega)⟩
    have e4 := put_same h (nx + 3) (some ⟨[.int .i64 (y.1 : Int), .int .i64 (y.2 : Int)], 2, true⟩)
    generalize h.put (nx + 3) (some ⟨[.int .i64 (y.1 : Int), .int .i64 (y.2 : Int)], 2, true⟩) = h1 at *
    rw [ld_at e4 (v := .int .i64 (y.2 : Int)) rfl]
    simp only [bind_some', asI_int, asB_bool, asStr_str, asP_ptr, asSl_sl, asAgg_1, asAgg_2, asAgg_3, asAgg_4, asTup_0, asTup_2, asTup_3, asTup_4, if_true', if_false', if_not_true', if_not_false', getD_0, getD_1, getD_2, getD_3]
    rw [ld_at e4 (v := .int .i64 (y.1 : Int)) rfl]
    simp only [bind_some', asI_int, asB_bool, asStr_str, asP_ptr, asSl_sl, asAgg_1, asAgg_2, asAgg_3, asAgg_4, asTup_0, asTup_2, asTup_3, asTup_4, if_true', if_false', if_not_true', if_not_false', getD_0, getD_1, getD_2, getD_3]
    have hw : wrapA .i64 ((szL (rs.take k) : Int) + wrapA .i64 ((y.2 : Int) - (y.1 : Int))) = ((szL (rs.take (k + 1)) : Nat) : Int) := by
      rw [show wrapA .i64 ((y.2 : Int) - (y.1 : Int)) = (y.2 : Int) - (y.1 : Int) from wA (by omega) (by omega), wA (by omega) (by omega), htk]; omega
    rw [hw]
    clear hw
    rw [wsucc (by omega)]
    exact ih lf (k + 1) h1 (nx + 15) (by omega) (by omega) ⟨by omega, fun i hi => by rw [x1.2 i (by omega), x.2 i hi]⟩

theorem size_spec {f : Nat} (hf : 220 ≤ f) (Y : YldF) {h0 : AHeap} {n0 : Nat} {xa : Option (Nat × Nat)} (xc : Bool) {rs : List (Nat × Nat)} (hx : Rows RgR h0 n0 none' xa 2 rs) (ok : MayOk rs) {n1 : Nat} (hn : n0 ≤ n1) :
    ∃ h' nx', callP Try.prog keepT f Y 33 [.slice xa rs.length xc] h0 n1 = some (.int .i64 (szL rs : Int), h', nx') ∧ Ext h0 n1 h' nx' := by
  obtain ⟨f, rfl⟩ : ∃ m, f = m + 1 := ⟨f - 1, by omega⟩
  have := ok.2.2
  rw [F33_eq]
  have hx1 : Rows RgR h0 (n1 + 4) none' xa 2 rs := hx.go (D := none') ⟨by omega, fun _ _ _ => rfl⟩ (fun _ _ q => q) (fun _ _ q => q) (fun _ _ q => q)
  obtain ⟨h1, m1, g1, g2⟩ := may_spec (f := f) (by omega) Y xc hx1 ok (Nat.le_refl _)
  rw [g1]
  simp only [bind_some', asI_int, asB_bool, asStr_str, asP_ptr, asSl_sl, asAgg_1, asAgg_2, asAgg_3, asAgg_4, asTup_0, asTup_2, asTup_3, asTup_4, if_true', if_false', if_not_true', if_not_false', getD_0, getD_1, getD_2, getD_3]
  obtain ⟨h', nx', k1, k2⟩ := size_loop (f := f) (Y := Y) (xc := xc) (hx1.go (g2.fr none') (fun _ _ q => q) (fun _ _ q => q) (fun _ _ q => q)) ok rs.length f 0 h1 (m1 + 3) (by omega) (by omega) ⟨by omega, fun _ _ => rfl⟩
  have l := g2.1
  rw [show ((szL (rs.take 0) : Nat) : Int) = 0 by simp [szL], show ((0 : Nat) : Int) = 0 from rfl] at k1
  have l2 := k2.1
  refine ⟨h', nx', ?_, by omega, fun i hi => (k2.2 i (by omega)).trans (g2.2 i (by omega))⟩
  rw [if_pos trivial]
  exact k1

theorem sameR_loop {f : Nat} {Y : YldF} {h : AHeap} {n0 : Nat} {xa ya : Option (Nat × Nat)} {xc yc : Bool} {rs : List (Nat × Nat)} (hx : Rows RgR h n0 none' xa 2 rs) (hy : Rows RgR h n0 none' ya 2 rs) (hl : rs.length ≤ 1000) (d : Nat) :
    ∀ (lf k nx : Nat), k + d = rs.length → d < lf → ∃ m, nx ≤ m ∧ F34_L1 (callP Try.prog keepT f) Y f lf xa rs.length xc ya rs.length yc (k : Int) h nx = some (.bool true, h, m) := by
  induction d with
  | zero =>
    intro lf k nx e hlf
    obtain ⟨lf, rfl⟩ : ∃ m, lf = m + 1 := ⟨lf - 1, by omega⟩
    rw [F34_L1_eq, if_neg (by rw [decide_eq_true_eq]; omega)]
    exact ⟨_, Nat.le_add_right _ 5, rfl⟩
  | succ d ih =>
    intro lf k nx e hlf
    obtain ⟨lf, rfl⟩ : ∃ m, lf = m + 1 := ⟨lf - 1, by omega⟩
    have hk : k < rs.length := by omega
    obtain ⟨r, pr, _, rd, _⟩ := hx.read (R := Res) (List.getElem?_eq_getElem hk)
    obtain ⟨r', pr', _, rd', _⟩ := hy.read (R := Res) (List.getElem?_eq_getElem hk)
    simp only [RgR] at pr pr'
    subst pr pr'
    rw [F34_L1_eq, if_pos (decide_eq_true (by omega)), rd]
    simp only [bind_some', asI_int, asB_bool, asStr_str, asP_ptr, asSl_sl, asAgg_1, asAgg_2, asAgg_3, asAgg_4, asTup_0, asTup_2, asTup_3, asTup_4, if_true', if_false', if_not_true', if_not_false', getD_0, getD_1, getD_2, getD_3]
    rw [rd']
    simp only [bind_some', asI_int, asB_bool, asStr_str, asP_ptr, asSl_sl, asAgg_1, asAgg_2, asAgg_3, asAgg_4, asTup_0, asTup_2, asTup_3, asTup_4, if_true', if_false', if_not_true', if_not_false', getD_0, getD_1, getD_2, getD_3]
    rw [if_neg (by simp [eqCells, eqA1]), wsucc (by omega)]
    obtain ⟨m, l, q⟩ := ih lf (k + 1) (nx + 16) (by omega) (by omega)
    exact ⟨m, by omega, q⟩

theorem con_replay : ∀ (xs A : List Int) (m : Nat), (∀ x ∈ xs, x = 0 ∨ x = 1) →
    repL (A ++ List.replicate m 0 ++ List.replicate xs.length 0) (conL (runsG (fun x => x == 1) xs (A.length + m) (if m = 0 then none else some A.length))) = some (A ++ List.replicate m 1 ++ xs)
  | [], A, m, _ => by
    by_cases hm : m = 0
    · subst hm; simp [runsG, conL, repL]
    · rw [if_neg hm]
      simp only [runsG, conL, List.map_cons, List.map_nil, repL]
      rw [repS_ok (t := false) (by omega) (by simp) (fun i h1 h2 => by
        rw [List.append_assoc, List.getElem?_append_right h1, List.getElem?_append_left (by simp; omega), List.getElem?_replicate, if_pos (by omega)]; rfl)]
      simp only [Option.bind_some]
      rw [setR_eq _ (by simp)]
      simp
  | x :: xs, A, m, h => by
    have hxs : ∀ y ∈ xs, y = 0 ∨ y = 1 := fun y hy => h y (List.mem_cons_of_mem _ hy)
    rcases h x List.mem_cons_self with rfl | rfl
    · by_cases hm : m = 0
      · subst hm
        have hr : runsG (fun x => x == 1) (0 :: xs) (A.length + 0) (if (0 : Nat) = 0 then none else some A.length) = runsG (fun x => x == 1) xs ((A ++ [0]).length + 0) (if (0 : Nat) = 0 then none else some (A ++ [(0 : Int)]).length) := by
          simp [runsG]
        rw [hr]
        have := con_replay xs (A ++ [0]) 0 hxs
        rw [show A ++ List.replicate 0 0 ++ List.replicate (0 :: xs).length 0 = A ++ [0] ++ List.replicate 0 0 ++ List.replicate xs.length 0 by rw [List.length_cons, List.replicate_succ]; simp]
        rw [this]; simp
      · have hr : runsG (fun x => x == 1) (0 :: xs) (A.length + m) (if m = 0 then none else some A.length) = (A.length, A.length + m) :: runsG (fun x => x == 1) xs ((A ++ List.replicate m 1 ++ [0]).length + 0) (if (0 : Nat) = 0 then none else some (A ++ List.replicate m 1 ++ [(0 : Int)]).length) := by
          rw [if_neg hm]; simp [runsG]; congr 1
        rw [hr]
        simp only [conL, List.map_cons, repL]
        rw [repS_ok (t := false) (by omega) (by simp) (fun i h1 h2 => by
          rw [List.append_assoc, List.getElem?_append_right h1, List.getElem?_append_left (by simp; omega), List.getElem?_replicate, if_pos (by omega)]; rfl)]
        simp only [Option.bind_some]
        rw [setR_eq _ (by simp)]
        have := con_replay xs (A ++ List.replicate m 1 ++ [0]) 0 hxs
        simp only [conL] at this
        rw [show List.take A.length (A ++ List.replicate m 0 ++ List.replicate (0 :: xs).length 0) ++ List.replicate m (if false = true then 0 else 1) ++ List.drop (A.length + m) (A ++ List.replicate m 0 ++ List.replicate (0 :: xs).length 0) = A ++ List.replicate m 1 ++ [0] ++ List.replicate 0 0 ++ List.replicate xs.length 0 by
          rw [List.length_cons, List.replicate_succ]; simp]
        rw [this]; simp
    · have hr : runsG (fun x => x == 1) (1 :: xs) (A.length + m) (if m = 0 then none else some A.length) = runsG (fun x => x == 1) xs (A.length + (m + 1)) (if m + 1 = 0 then none else some A.length) := by
        by_cases hm : m = 0
        · subst hm; simp [runsG]
        · rw [if_neg hm, if_neg (by omega)]; simp [runsG]; rfl
      rw [hr]
      have := con_replay xs A (m + 1) hxs
      rw [show A ++ List.replicate m 0 ++ List.replicate (1 :: xs).length 0 = A ++ List.replicate (m + 1) 0 ++ List.replicate xs.length 0 by rw [List.length_cons, List.replicate_succ, List.replicate_succ']; simp]
      rw [this, List.replicate_succ']; simp

theorem sz_runs : ∀ (xs : List Int) (k : Nat) (st : Option Nat), (∀ s, st = some s → s ≤ k) → szL (runsG (fun x => x == 0) xs k st) = (match st with | none => 0 | some s => k - s) + zc xs
  | [], k, none, _ => by simp [runsG, szL, zc]
  | [], k, some s, _ => by simp [runsG, szL, zc]
  | x :: xs, k, none, h => by
    simp only [runsG]
    by_cases hx : x = 0
    · subst hx
      rw [if_pos (by simp), sz_runs xs (k + 1) (some k) (fun s e => by cases e; omega)]
      simp only [zc, List.countP_cons]; simp; omega
    · rw [if_neg (by simpa using hx), sz_runs xs (k + 1) none (fun s e => by cases e)]
      simp only [zc, List.countP_cons]; simp [hx]
  | x :: xs, k, some s, h => by
    have hs := h s rfl
    simp only [runsG]
    by_cases hx : x = 0
    · subst hx
      rw [if_pos (by simp), sz_runs xs (k + 1) (some s) (fun s' e => by cases e; omega)]
      simp only [zc, List.countP_cons]; simp; omega
    · rw [if_neg (by simpa using hx)]
      simp only [szL]
      rw [sz_runs xs (k + 1) none (fun s e => by cases e)]
      simp only [zc, List.countP_cons]; simp [hx]
theorem zc_bit (u : List Int) : zc (u.map bit) = zc u := by
  unfold zc
  rw [List.countP_map]
  congr 1
  funext x
  simp only [Function.comp_apply, bit]
  by_cases h : x = 0
  · subst h; rfl
  · rw [if_neg h, beq_eq_false_iff_ne.2 h]; rfl

end Go.Proofs.Ytbekpkapkaifiaa.T
