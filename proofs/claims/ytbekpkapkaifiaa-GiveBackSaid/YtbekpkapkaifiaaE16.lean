/- Replay, Condense, May, Size, sameRanges. -/
import Derived.Test.YtbekpkapkaifiaaE15
set_option linter.unusedVariables false
set_option linter.unusedSimpArgs false
namespace Go.Proofs.Ytbekpkapkaifiaa.T
open Go Go.RowKit Go.Proofs

theorem replay_spec {f : Nat} (Y : YldF) {N : Nat} (hN : N ≤ 4096) (h1N : 1 ≤ N) (hf : N + 4120 ≤ f) {h0 : AHeap} {n0 : Nat} {xa : Option (Nat × Nat)} (xc : Bool) {log : List (Bool × Int × Int)} (hx : Rows RecR h0 n0 none' xa 3 log) (hl : log.length ≤ 4096) {R' : List Int} (hR : R'.length = N) (hrep : repL (List.replicate N 0) log = some R') (h200 : (runsG (fun x => x == 0) R' 0 none).length ≤ 200) :
    ∃ a c h' nx', callP Try.prog keepT f Y 30 [.int .i64 (N : Int), .slice xa log.length xc] h0 n0 = some (.tuple [.slice a (runsG (fun x => x == 0) R' 0 none).length c, .int .i64 0], h', nx') ∧ Ext h0 n0 h' nx' ∧ Rows RgR h' nx' none' a 2 (runsG (fun x => x == 0) R' 0 none) := by
  obtain ⟨f, rfl⟩ : ∃ m, f = m + 1 := ⟨f - 1, by omega⟩
  rw [F30_eq]
  obtain ⟨sp, ub, h1, n1, g1, g2, g3⟩ := replayed_spec (f := f) (Y := Y) hN h1N (by omega) xc (n0 := n0 + 10) (hx.go (D := none') ⟨by omega, fun _ _ _ => rfl⟩ (fun _ _ q => q) (fun _ _ q => q) (fun _ _ q => q)) hl hrep
  rw [g1]
  simp only [bind_some', asI_int, asB_bool, asStr_str, asP_ptr, asSl_sl, asAgg_1, asAgg_2, asAgg_3, asAgg_4, asTup_0, asTup_2, asTup_3, asTup_4, if_true', if_false', if_not_true', if_not_false', getD_0, getD_1, getD_2, getD_3]
  have l1 := g2.1
  rw [if_neg (by decide)]
  obtain ⟨a, c, h2, n2, k1, k2, k3, k4⟩ := runs_spec (f := f) (Y := Y) (g3.ext (⟨by omega, fun _ _ => rfl⟩ : Ext h1 n1 h1 (n1 + 5))) (by simp only; omega) (by simp only; omega) (cf := .fn 49 [] []) (p := fun x => x == 0) (fun x h nx => by
    obtain ⟨f', rfl⟩ : ∃ m, f = m + 2 := ⟨f - 2, by omega⟩
    exact ⟨nx + 4, by omega, _, _, _, asCal_fn _ _ _, by rw [callC_fn]; exact F49_eq _ _ _ _ _⟩)
  simp only at k1 k3
  rw [k1]
  simp only [bind_some', asI_int, asB_bool, asStr_str, asP_ptr, asSl_sl, asAgg_1, asAgg_2, asAgg_3, asAgg_4, asTup_0, asTup_2, asTup_3, asTup_4, if_true', if_false', if_not_true', if_not_false', getD_0, getD_1, getD_2, getD_3]
  have l2 := k2.1
  rw [if_neg (by rw [decide_eq_true_eq]; omega)]
  exact ⟨a, c, _, _, rfl, ⟨by omega, fun i hi => (k2.2 i (by omega)).trans (g2.2 i (by omega))⟩, (k3.rows (A := none') (fun _ _ q => q)).go (D := none') ⟨by omega, fun _ _ _ => rfl⟩ (fun _ _ q => q) (fun _ _ q => q) (fun _ _ q => q)⟩

def conL (rs : List (Nat × Nat)) : List (Bool × Int × Int) := rs.map fun r => (false, (r.1 : Int), (r.2 : Int))

theorem con_loop {f : Nat} {Y : YldF} {h0 : AHeap} {n0 : Nat} {xa : Option (Nat × Nat)} {xc : Bool} {rs : List (Nat × Nat)} (hx : Rows RgR h0 n0 none' xa 2 rs) (hl : rs.length ≤ 10000) (d : Nat) :
    ∀ (lf k : Nat) (oc : Bool) (oa : Option (Nat × Nat)) (h : AHeap) (nx : Nat), k + d = rs.length → d < lf → Ext h0 n0 h nx → OwnRows RecR h nx oa 3 (conL (rs.take k)) → (∀ i, ownOf oa i → n0 ≤ i) →
      ∃ a c h' nx', F29_L1 (callP Try.prog keepT f) Y f lf oa (conL (rs.take k)).length oc xa rs.length xc (rs.length : Int) (k : Int) h nx = some (.tuple [.slice a (conL rs).length c, .int .i64 0], h', nx') ∧ Ext h0 n0 h' nx' ∧ Rows RecR h' nx' none' a 3 (conL rs) := by
  induction d with
  | zero =>
    intro lf k oc oa h nx e hlf x ow oA
    obtain ⟨lf, rfl⟩ : ∃ m, lf = m + 1 := ⟨lf - 1, by omega⟩
    obtain rfl : k = rs.length := by omega
    rw [List.take_length] at *
    rw [F29_L1_eq, if_neg (by rw [decide_eq_true_eq]; omega)]
    exact ⟨_, _, _, _, rfl, ⟨by have := x.1; omega, x.2⟩, (ow.rows (A := none') (fun _ _ q => q)).go (D := none') ⟨by omega, fun _ _ _ => rfl⟩ (fun _ _ q => q) (fun _ _ q => q) (fun _ _ q => q)⟩
  | succ d ih =>
    intro lf k oc oa h nx e hlf x ow oA
    obtain ⟨lf, rfl⟩ : ∃ m, lf = m + 1 := ⟨lf - 1, by omega⟩
    have hk : k < rs.length := by omega
    have lx := x.1
    obtain ⟨r, pr, _, rd, _⟩ := (hx.go (x.fr none') (fun _ _ q => q) (fun _ _ q => q) (fun _ _ q => q) : Rows RgR h nx none' xa 2 rs).read (R := Res) (List.getElem?_eq_getElem hk)
    have htk : conL (rs.take (k + 1)) = conL (rs.take k) ++ [(false, (rs[k].1 : Int), (rs[k].2 : Int))] := by unfold conL; rw [List.take_add_one, List.getElem?_eq_getElem hk, List.map_append]; rfl
    have hlen : (conL (rs.take k)).length = k := by simp [conL]; omega
    generalize rs[k] = y at *
    simp only [RgR] at pr
    subst pr
    rw [F29_L1_eq, if_pos (decide_eq_true (by omega)), rd]
    simp only [bind_some', asI_int, asB_bool, asStr_str, asP_ptr, asSl_sl, asAgg_1, asAgg_2, asAgg_3, asAgg_4, asTup_0, asTup_2, asTup_3, asTup_4, if_true', if_false', if_not_true', if_not_false', getD_0, getD_1, getD_2, getD_3]
    rw [st_all (put_same h (nx + 3) _) (by simp) (by simp) (by simp [allOne, AV.one]), put_put]
    rw [ldr_all (put_same h (nx + 3) _) (by simp)]
    simp only [bind_some', asI_int, asB_bool, asStr_str, asP_ptr, asSl_sl, asAgg_1, asAgg_2, asAgg_3, asAgg_4, asTup_0, asTup_2, asTup_3, asTup_4, if_true', if_false', if_not_true', if_not_false', getD_0, getD_1, getD_2, getD_3]
    have x1 : Ext h nx (h.put (nx + 3) (some ⟨[.int .i64 (y.1 : Int), .int .i64 (y.2 : Int)], 2, true⟩)) (nx + 4) := ⟨by omega, fun i hi => put_ne (by omega)⟩
    generalize h.put (nx + 3) (some ⟨[.int .i64 (y.1 : Int), .int .i64 (y.2 : Int)], 2, true⟩) = h1 at *
    have ow1 : OwnRows RecR h1 (nx + 4) oa 3 (conL (rs.take k)) := ow.go (x1.fr none') (fun _ _ q => q) (fun _ _ q => q)
    obtain ⟨e1, p1, p2, p3, p4, p5, p6, _⟩ := ow1.push oc (bytes := 24) (id := nx + 8) (id2 := nx + 9) (x := (false, (y.1 : Int), (y.2 : Int))) (r := [.bool false, .int .i64 (y.1 : Int), .int .i64 (y.2 : Int)]) rfl rfl (growOk_of (by omega) (by omega)) (by omega) (by omega)
    rw [p1]
    simp only [bind_some', asI_int, asB_bool, asStr_str, asP_ptr, asSl_sl, asAgg_1, asAgg_2, asAgg_3, asAgg_4, asTup_0, asTup_2, asTup_3, asTup_4, if_true', if_false', if_not_true', if_not_false', getD_0, getD_1, getD_2, getD_3]
    rw [p2]
    simp only [bind_some', asI_int, asB_bool, asStr_str, asP_ptr, asSl_sl, asAgg_1, asAgg_2, asAgg_3, asAgg_4, asTup_0, asTup_2, asTup_3, asTup_4, if_true', if_false', if_not_true', if_not_false', getD_0, getD_1, getD_2, getD_3]
    rw [wsucc (by omega), p4, show (conL (rs.take k)).length + 1 = (conL (rs.take (k + 1))).length by rw [htk]; simp]
    rw [← htk] at p5
    exact ih lf (k + 1) e1.c e1.a _ (nx + 13) (by omega) (by omega) ⟨by omega, fun i hi => by rw [p6.2 i (by omega) (fun q => by have := oA i q; omega), x1.2 i (by omega), x.2 i hi]⟩ (p5.go (D := none') ⟨by omega, fun _ _ _ => rfl⟩ (fun _ _ q => q) (fun _ _ q => q)) (fun i q => by rw [p3] at q; obtain ⟨o, q⟩ := q; simp only [Option.some.injEq, Prod.mk.injEq] at q; omega)

theorem condense_spec {f : Nat} (Y : YldF) {N : Nat} (hN : N ≤ 4096) (h1N : 1 ≤ N) (hf : N + 4120 ≤ f) {h0 : AHeap} {n0 : Nat} {xa : Option (Nat × Nat)} (xc : Bool) {log : List (Bool × Int × Int)} (hx : Rows RecR h0 n0 none' xa 3 log) (hl : log.length ≤ 4096) {R' : List Int} (hR : R'.length = N) (hrep : repL (List.replicate N 0) log = some R') :
    ∃ a c h' nx', callP Try.prog keepT f Y 29 [.int .i64 (N : Int), .slice xa log.length xc] h0 n0 = some (.tuple [.slice a (conL (runsG (fun x => x == 1) R' 0 none)).length c, .int .i64 0], h', nx') ∧ Ext h0 n0 h' nx' ∧ Rows RecR h' nx' none' a 3 (conL (runsG (fun x => x == 1) R' 0 none)) := by
  obtain ⟨f, rfl⟩ : ∃ m, f = m + 1 := ⟨f - 1, by omega⟩
  rw [F29_eq]
  obtain ⟨sp, ub, h1, n1, g1, g2, g3⟩ := replayed_spec (f := f) (Y := Y) hN h1N (by omega) xc (n0 := n0 + 10) (hx.go (D := none') ⟨by omega, fun _ _ _ => rfl⟩ (fun _ _ q => q) (fun _ _ q => q) (fun _ _ q => q)) hl hrep
  rw [g1]
  simp only [bind_some', asI_int, asB_bool, asStr_str, asP_ptr, asSl_sl, asAgg_1, asAgg_2, asAgg_3, asAgg_4, asTup_0, asTup_2, asTup_3, asTup_4, if_true', if_false', if_not_true', if_not_false', getD_0, getD_1, getD_2, getD_3]
  have l1 := g2.1
  rw [if_neg (by decide)]
  obtain ⟨a, c, h2, n2, k1, k2, k3, k4⟩ := runs_spec (f := f) (Y := Y) (g3.ext (⟨by omega, fun _ _ => rfl⟩ : Ext h1 n1 h1 (n1 + 7))) (by simp only; omega) (by simp only; omega) (cf := .fn 48 [] []) (p := fun x => x == 1) (fun x h nx => by
    obtain ⟨f', rfl⟩ : ∃ m, f = m + 2 := ⟨f - 2, by omega⟩
    exact ⟨nx + 4, by omega, _, _, _, asCal_fn _ _ _, by rw [callC_fn]; exact F48_eq _ _ _ _ _⟩)
  simp only at k1 k3
  rw [k1]
  simp only [bind_some', asI_int, asB_bool, asStr_str, asP_ptr, asSl_sl, asAgg_1, asAgg_2, asAgg_3, asAgg_4, asTup_0, asTup_2, asTup_3, asTup_4, if_true', if_false', if_not_true', if_not_false', getD_0, getD_1, getD_2, getD_3]
  have l2 := k2.1
  have hrl := runsG_len (fun x => x == 1) R' 0 none
  obtain ⟨a', c', h', nx', q1, q2, q3⟩ := con_loop (f := f) (Y := Y) (xc := c) (k3.rows (A := none') (fun _ _ q => q)) (by omega) (runsG (fun x => x == 1) R' 0 none).length f 0 false none h2 n2 (by omega) (by omega) (Ext.refl _ _) (OwnRows.nil _ _ _ _) (fun i q => (no_own q).elim)
  exact ⟨a', c', h', nx', q1, ⟨by have := q2.1; omega, fun i hi => by rw [q2.2 i (by omega), k2.2 i (by omega), g2.2 i (by omega)]⟩, q3⟩

/-- Ranges as May wants them. -/
def MayOk (rs : List (Nat × Nat)) : Prop := (∀ r ∈ rs, r.1 < r.2 ∧ r.2 ≤ 1048576) ∧ rs.Pairwise (fun a b => a.2 < b.1) ∧ rs.length ≤ 200
theorem runsG_ge (p : Int → Bool) : ∀ (xs : List Int) (k : Nat) (st : Option Nat), ∀ r ∈ runsG p xs k st, (match st with | none => k | some s => min s k) ≤ r.1
  | [], k, none, r, hr => by cases hr
  | [], k, some s, r, hr => by simp only [runsG, List.mem_singleton] at hr; subst hr; simp only; omega
  | x :: xs, k, none, r, hr => by
    simp only [runsG] at hr
    split at hr
    · have := runsG_ge p xs (k + 1) (some k) r hr; simp only at this ⊢; omega
    · have := runsG_ge p xs (k + 1) none r hr; simp only at this ⊢; omega
  | x :: xs, k, some s, r, hr => by
    simp only [runsG] at hr
    split at hr
    · have := runsG_ge p xs (k + 1) (some s) r hr; simp only at this ⊢; omega
    · rcases List.mem_cons.1 hr with rfl | hr
      · simp only; omega
      · have := runsG_ge p xs (k + 1) none r hr; simp only at this ⊢; omega
theorem runsG_pair (p : Int → Bool) : ∀ (xs : List Int) (k : Nat) (st : Option Nat), (runsG p xs k st).Pairwise (fun a b => a.2 < b.1)
  | [], k, none => by simp [runsG]
  | [], k, some s => by simp [runsG]
  | x :: xs, k, none => by
    simp only [runsG]
    split
    · exact runsG_pair p xs (k + 1) (some k)
    · exact runsG_pair p xs (k + 1) none
  | x :: xs, k, some s => by
    simp only [runsG]
    split
    · exact runsG_pair p xs (k + 1) (some s)
    · refine List.pairwise_cons.2 ⟨fun r hr => ?_, runsG_pair p xs (k + 1) none⟩
      have := runsG_ge p xs (k + 1) none r hr
      simp only at this ⊢; omega
theorem runs_may (p : Int → Bool) {R : List Int} (h : R.length ≤ 300) : MayOk (runsG p R 0 none) := by
  refine ⟨fun r hr => ?_, runsG_pair p R 0 none, ?_⟩
  · have := runsG_ok p R 0 none (fun s e => by cases e) r hr
    omega
  · have := runsG_half p R 0 none
    simp at this; omega

theorem one_spec {f : Nat} (hf : 1 ≤ f) (Y : YldF) {a b : Nat} (h1 : a < b) (h2 : b ≤ 1048576) (h : AHeap) (nx : Nat) : ∃ h', callP Try.prog keepT f Y 50 [.agg [.int .i64 (a : Int), .int .i64 (b : Int)]] h nx = some (.bool true, h', nx + 18) ∧ Ext h nx h' (nx + 18) := by
  obtain ⟨f, rfl⟩ : ∃ m, f = m + 1 := ⟨f - 1, by omega⟩
  rw [F50_eq]
  dsimp only
  have e1 := put_same h nx (some ⟨[.int .i64 (a : Int), .int .i64 (b : Int)], 2, true⟩)
  rw [ld_at e1 (v := .int .i64 (a : Int)) rfl]
  simp only [bind_some', asI_int, asB_bool, asStr_str, asP_ptr, asSl_sl, asAgg_1, asAgg_2, asAgg_3, asAgg_4, asTup_0, asTup_2, asTup_3, asTup_4, if_true', if_false', if_not_true', if_not_false', getD_0, getD_1, getD_2, getD_3]
  rw [if_pos (decide_eq_true (by omega)), ld_at e1 (v := .int .i64 (a : Int)) rfl]
  simp only [bind_some', asI_int, asB_bool, asStr_str, asP_ptr, asSl_sl, asAgg_1, asAgg_2, asAgg_3, asAgg_4, asTup_0, asTup_2, asTup_3, asTup_4, if_true', if_false', if_not_true', if_not_false', getD_0, getD_1, getD_2, getD_3]
  rw [ld_at e1 (v := .int .i64 (b : Int)) rfl]
  simp only [bind_some', asI_int, asB_bool, asStr_str, asP_ptr, asSl_sl, asAgg_1, asAgg_2, asAgg_3, asAgg_4, asTup_0, asTup_2, asTup_3, asTup_4, if_true', if_false', if_not_true', if_not_false', getD_0, getD_1, getD_2, getD_3]
  rw [if_pos (decide_eq_true (by omega)), ld_at e1 (v := .int .i64 (b : Int)) rfl]
  simp only [bind_some', asI_int, asB_bool, asStr_str, asP_ptr, asSl_sl, asAgg_1, asAgg_2, asAgg_3, asAgg_4, asTup_0, asTup_2, asTup_3, asTup_4, if_true', if_false', if_not_true', if_not_false', getD_0, getD_1, getD_2, getD_3]
  rw [show decide ((b : Int) ≤ 1048576) = true from decide_eq_true (by omega)]
  exact ⟨_, rfl, by omega, fun i hi => put_ne (by omega)⟩

theorem may_loop {f : Nat} (hf : 1 ≤ f) {Y : YldF} {h0 : AHeap} {n0 : Nat} {xa : Option (Nat × Nat)} {xc xc2 : Bool} {rs : List (Nat × Nat)} (hx : Rows RgR h0 n0 none' xa 2 rs) (ok : MayOk rs) (d : Nat) :
    ∀ (lf k : Nat) (h : AHeap) (nx : Nat), k + d = rs.length → d < lf → Ext h0 n0 h nx →
      ∃ h' nx', F32_L1 (callP Try.prog keepT f) Y f lf xa rs.length xc xa rs.length xc2 (rs.length : Int) (k : Int) h nx = some (.bool true, h', nx') ∧ Ext h0 n0 h' nx' := by
  obtain ⟨ok1, ok2, ok3⟩ := ok
  induction d with
  | zero =>
    intro lf k h nx e hlf x
    obtain ⟨lf, rfl⟩ : ∃ m, lf = m + 1 := ⟨lf - 1, by omega⟩
    rw [F32_L1_eq, if_neg (by rw [decide_eq_true_eq]; omega), show decide ((rs.length : Int) ≤ 200) = true from decide_eq_true (by omega)]
    exact ⟨_, _, rfl, by have := x.1; omega, x.2⟩
  | succ d ih =>
    intro lf k h nx e hlf x
    obtain ⟨lf, rfl⟩ : ∃ m, lf = m + 1 := ⟨lf - 1, by omega⟩
    have hk : k < rs.length := by omega
    have lx := x.1
    obtain ⟨r, pr, _, rd, _⟩ := (hx.go (x.fr none') (fun _ _ q => q) (fun _ _ q => q) (fun _ _ q => q) : Rows RgR h nx none' xa 2 rs).read (R := Res) (List.getElem?_eq_getElem hk)
    obtain ⟨o1, o2⟩ := ok1 _ (List.getElem_mem hk)
    have hprev : ∀ hk1 : 0 < k, rs[k - 1].2 < rs[k].1 := fun hk1 => List.pairwise_iff_getElem.1 ok2 (k - 1) k (by omega) hk (by omega)
    generalize hy : rs[k] = y at *
    simp only [RgR] at pr
    subst pr
    rw [F32_L1_eq, if_pos (decide_eq_true (by omega)), rd]
    simp only [bind_some', asI_int, asB_bool, asStr_str, asP_ptr, asSl_sl, asAgg_1, asAgg_2, asAgg_3, asAgg_4, asTup_0, asTup_2, asTup_3, asTup_4, if_true', if_false', if_not_true', if_not_false', getD_0, getD_1, getD_2, getD_3]
    rw [st_all (put_same h (nx + 4) _) (by simp) (by simp) (by simp [allOne, AV.one]), put_put]
    rw [ldr_all (put_same h (nx + 4) _) (by simp)]
    simp only [bind_some', asI_int, asB_bool, asStr_str, asP_ptr, asSl_sl, asAgg_1, asAgg_2, asAgg_3, asAgg_4, asTup_0, asTup_2, asTup_3, asTup_4, if_true', if_false', if_not_true', if_not_false', getD_0, getD_1, getD_2, getD_3]
    have x1 : Ext h nx (h.put (nx + 4) (some ⟨[.int .i64 (y.1 : Int), .int .i64 (y.2 : Int)], 2, true⟩)) (nx + 25) := ⟨by omega, fun i hi => put_ne (by omega)⟩
    have e4 := put_same h (nx + 4) (some ⟨[.int .i64 (y.1 : Int), .int .i64 (y.2 : Int)], 2, true⟩)
    generalize h.put (nx + 4) (some ⟨[.int .i64 (y.1 : Int), .int .i64 (y.2 : Int)], 2, true⟩) = h1 at *
    obtain ⟨h2, g1, g2⟩ := one_spec hf Y o1 o2 h1 (nx + 25)
    rw [g1]
    simp only [bind_some', asI_int, asB_bool, asStr_str, asP_ptr, asSl_sl, asAgg_1, asAgg_2, asAgg_3, asAgg_4, asTup_0, asTup_2, asTup_3, asTup_4, if_true', if_false', if_not_true', if_not_false', getD_0, getD_1, getD_2, getD_3]
    have x2 : Ext h0 n0 h2 (nx + 25 + 20) := ⟨by omega, fun i hi => by rw [g2.2 i (by omega), x1.2 i (by omega), x.2 i hi]⟩
    by_cases k0 : 0 < k
    · rw [if_pos (decide_eq_true (by omega)), show wrapA .i64 ((k : Int) - 1) = ((k - 1 : Nat) : Int) from wpred (by omega) (by omega)]
      obtain ⟨r2, pr2, _, _, rd2⟩ := (hx.go (x2.fr none') (fun _ _ q => q) (fun _ _ q => q) (fun _ _ q => q) : Rows RgR h2 (nx + 25 + 20) none' xa 2 rs).read (R := Res) (List.getElem?_eq_getElem (show k - 1 < rs.length by omega))
      have hp := hprev k0
      generalize rs[k - 1] = z at *
      simp only [RgR] at pr2
      subst pr2
      rw [rd2 1 (.int .i64 (z.2 : Int)) _ (by omega) rfl]
      simp only [bind_some', asI_int, asB_bool, asStr_str, asP_ptr, asSl_sl, asAgg_1, asAgg_2, asAgg_3, asAgg_4, asTup_0, asTup_2, asTup_3, asTup_4, if_true', if_false', if_not_true', if_not_false', getD_0, getD_1, getD_2, getD_3]
      rw [ld_at ((g2.2 (nx + 4) (by omega)).trans e4) (v := .int .i64 (y.1 : Int)) rfl]
      simp only [bind_some', asI_int, asB_bool, asStr_str, asP_ptr, asSl_sl, asAgg_1, asAgg_2, asAgg_3, asAgg_4, asTup_0, asTup_2, asTup_3, asTup_4, if_true', if_false', if_not_true', if_not_false', getD_0, getD_1, getD_2, getD_3]
      rw [if_neg (by rw [decide_eq_true_eq]; omega), wsucc (by omega)]
      exact ih lf (k + 1) h2 _ (by omega) (by omega) x2
    · rw [if_neg (by rw [decide_eq_true_eq]; omega), wsucc (by omega)]
      exact ih lf (k + 1) h2 _ (by omega) (by omega) x2

theorem may_spec {f : Nat} (hf : 210 ≤ f) (Y : YldF) {h0 : AHeap} {n0 : Nat} {xa : Option (Nat × Nat)} (xc : Bool) {rs : List (Nat × Nat)} (hx : Rows RgR h0 n0 none' xa 2 rs) (ok : MayOk rs) {n1 : Nat} (hn : n0 ≤ n1) :
    ∃ h' nx', callP Try.prog keepT f Y 32 [.slice xa rs.length xc] h0 n1 = some (.bool true, h', nx') ∧ Ext h0 n1 h' nx' := by
  obtain ⟨f, rfl⟩ : ∃ m, f = m + 1 := ⟨f - 1, by omega⟩
  have := ok.2.2
  rw [F32_eq]
  obtain ⟨h', nx', g1, g2⟩ := may_loop (f := f) (by omega) (Y := Y) (xc := xc) (xc2 := xc) (hx.go (D := none') ⟨hn, fun _ _ _ => rfl⟩ (fun _ _ q => q) (fun _ _ q => q) (fun _ _ q => q) : Rows RgR h0 n1 none' xa 2 rs) ok rs.length f 0 h0 (n1 + 4) (by omega) (by omega) ⟨by omega, fun _ _ => rfl⟩
  exact ⟨h', nx', g1, g2⟩

end Go.Proofs.Ytbekpkapkaifiaa.T
