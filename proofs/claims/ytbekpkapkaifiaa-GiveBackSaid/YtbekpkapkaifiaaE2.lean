/- A space in memory: runs. -/
import Derived.Test.YtbekpkapkaifiaaE1
set_option linter.unusedVariables false
set_option linter.unusedSimpArgs false
namespace Go.Proofs.Ytbekpkapkaifiaa.T
open Go Go.RowKit Go.Proofs

def runsG (p : Int → Bool) : List Int → Nat → Option Nat → List (Nat × Nat)
  | [], _, none => []
  | [], k, some s => [(s, k)]
  | x :: xs, k, none => if p x = true then runsG p xs (k + 1) (some k) else runsG p xs (k + 1) none
  | x :: xs, k, some s => if p x = true then runsG p xs (k + 1) (some s) else (s, k) :: runsG p xs (k + 1) none
def startI : Option Nat → Int
  | none => -1
  | some s => (s : Int)

theorem runs_push {f : Nat} {Y : YldF} {h0 : AHeap} {n0 : Nat} {outs : List (Nat × Nat)} {oa : Option (Nat × Nat)} {h : AHeap} {nx : Nat} (oc : Bool) (x : Ext h0 n0 h nx) (ow : OwnRows RgR h nx oa 2 outs) (oA : ∀ i, ownOf oa i → n0 ≤ i) (r : Nat × Nat) (hl : outs.length ≤ 100000) {id id2 : Nat} (h1 : nx ≤ id) (h2 : id < id2) :
    ∃ e, srcS (h.put id (some ⟨[.int .i64 (r.1 : Int), .int .i64 (r.2 : Int)], 2, true⟩)) (some (id, 0)) 1 2 = some (1, [.int .i64 (r.1 : Int), .int .i64 (r.2 : Int)], [id]) ∧ appD (h.put id (some ⟨[.int .i64 (r.1 : Int), .int .i64 (r.2 : Int)], 2, true⟩)) oa outs.length oc 2 16 id2 (1, [.int .i64 (r.1 : Int), .int .i64 (r.2 : Int)], [id]) = some e ∧ e.n = (outs ++ [r]).length ∧
      Ext h0 n0 ((h.put id (some ⟨[.int .i64 (r.1 : Int), .int .i64 (r.2 : Int)], 2, true⟩)).puts e.sets) (id2 + 1) ∧ OwnRows RgR ((h.put id (some ⟨[.int .i64 (r.1 : Int), .int .i64 (r.2 : Int)], 2, true⟩)).puts e.sets) (id2 + 1) e.a 2 (outs ++ [r]) ∧ ∀ i, ownOf e.a i → n0 ≤ i := by
  have lx := x.1
  obtain ⟨e, p1, p2, p3, p4, p5, p6, _⟩ := ow.push oc (bytes := 16) (id := id) (id2 := id2) (x := r) (r := [.int .i64 (r.1 : Int), .int .i64 (r.2 : Int)]) rfl rfl (growOk_of (by omega) (by omega)) h1 h2
  refine ⟨e, p1, p2, by rw [p4]; simp, ⟨by omega, fun i hi => ?_⟩, p5, fun i q => ?_⟩
  · rw [p6.2 i (by omega) (fun q => by have := oA i q; omega), x.2 i hi]
  · rw [p3] at q; obtain ⟨o, q⟩ := q; simp only [Option.some.injEq, Prod.mk.injEq] at q; omega

theorem runs_loop {f : Nat} {Y : YldF} {h0 : AHeap} {n0 sp ub : Nat} {la : Option (Nat × Nat)} {s : SP} (w : Spc h0 n0 sp ub la s) (hu : s.u.length ≤ 100000) {cf : AV} {p : Int → Bool}
    (call : ∀ (x : Int) (h : AHeap) (nx : Nat), ∃ nx', nx ≤ nx' ∧ ∃ cal us vs, asCal cf = some (cal, us, vs) ∧ callC (callP Try.prog keepT f Y) Y cal (us ++ [.int .u8 x] ++ vs) h nx = some (.bool (p x), h, nx')) (d : Nat) :
    ∀ (lf k : Nat) (st : Option Nat) (oc : Bool) (oa : Option (Nat × Nat)) (outs : List (Nat × Nat)) (h : AHeap) (nx : Nat), k + d = s.u.length → d + 2 ≤ lf → Ext h0 n0 h nx → OwnRows RgR h nx oa 2 outs → (∀ i, ownOf oa i → n0 ≤ i) → outs.length ≤ k →
      ∃ a c h' nx', F47_L1 (callP Try.prog keepT f) Y f lf (some (sp, 0)) cf oa outs.length oc (startI st) (k : Int) h nx = some (.slice a (outs ++ runsG p (s.u.drop k) k st).length c, h', nx') ∧ Ext h0 n0 h' nx' ∧ OwnRows RgR h' nx' a 2 (outs ++ runsG p (s.u.drop k) k st) ∧ (∀ i, ownOf a i → n0 ≤ i) := by
  obtain ⟨c0, lc, e0⟩ := w.hd
  have ls := w.ls; have lu := w.lu
  induction d with
  | zero =>
    intro lf k st oc oa outs h nx e hl x ow oA ho
    obtain ⟨lf, rfl⟩ : ∃ m, lf = m + 2 := ⟨lf - 2, by omega⟩
    obtain rfl : k = s.u.length := by omega
    have lx := x.1
    have ed := (x.2 _ ls).trans e0
    have exit : ∀ (oc : Bool) (oa : Option (Nat × Nat)) (outs : List (Nat × Nat)) (st : Int) (h : AHeap) (nx : Nat), Ext h0 n0 h nx → OwnRows RgR h nx oa 2 outs → (∀ i, ownOf oa i → n0 ≤ i) → ∃ a c h' nx', F47_L1 (callP Try.prog keepT f) Y f (lf + 1) (some (sp, 0)) cf oa outs.length oc st ((s.u.length + 1 : Nat) : Int) h nx = some (.slice a outs.length c, h', nx') ∧ Ext h0 n0 h' nx' ∧ OwnRows RgR h' nx' a 2 outs ∧ (∀ i, ownOf a i → n0 ≤ i) := by
      intro oc oa outs st h nx x ow oA
      rw [F47_L1_eq]
      simp only [bind_some', asI_int, asB_bool, asStr_str, asP_ptr, asSl_sl, asAgg_1, asAgg_2, asAgg_3, asAgg_4, asTup_0, asTup_2, asTup_3, asTup_4, if_true', if_false', if_not_true', if_not_false', getD_0, getD_1, getD_2, getD_3]
      rw [ld_at ((x.2 _ ls).trans e0) (v := .slice (some (ub, 0)) s.u.length c0) rfl]
      simp only [bind_some', asI_int, asB_bool, asStr_str, asP_ptr, asSl_sl, asAgg_1, asAgg_2, asAgg_3, asAgg_4, asTup_0, asTup_2, asTup_3, asTup_4, if_true', if_false', if_not_true', if_not_false', getD_0, getD_1, getD_2, getD_3]
      rw [if_neg (by rw [decide_eq_true_eq]; omega)]
      exact ⟨_, _, _, _, rfl, ⟨by have := x.1; omega, x.2⟩, ow.go (D := fun _ => False) ⟨by omega, fun _ _ _ => rfl⟩ (fun _ _ q => q) (fun _ _ q => q), oA⟩
    rw [F47_L1_eq]
    simp only [bind_some', asI_int, asB_bool, asStr_str, asP_ptr, asSl_sl, asAgg_1, asAgg_2, asAgg_3, asAgg_4, asTup_0, asTup_2, asTup_3, asTup_4, if_true', if_false', if_not_true', if_not_false', getD_0, getD_1, getD_2, getD_3]
    rw [ld_at ed (v := .slice (some (ub, 0)) s.u.length c0) rfl]
    simp only [bind_some', asI_int, asB_bool, asStr_str, asP_ptr, asSl_sl, asAgg_1, asAgg_2, asAgg_3, asAgg_4, asTup_0, asTup_2, asTup_3, asTup_4, if_true', if_false', if_not_true', if_not_false', getD_0, getD_1, getD_2, getD_3]
    rw [if_pos (decide_eq_true (by omega)), ld_at ed (v := .slice (some (ub, 0)) s.u.length c0) rfl]
    simp only [bind_some', asI_int, asB_bool, asStr_str, asP_ptr, asSl_sl, asAgg_1, asAgg_2, asAgg_3, asAgg_4, asTup_0, asTup_2, asTup_3, asTup_4, if_true', if_false', if_not_true', if_not_false', getD_0, getD_1, getD_2, getD_3]
    rw [if_neg (by rw [decide_eq_true_eq]; omega), F47_J2_eq]
    simp only [bind_some', asI_int, asB_bool, asStr_str, asP_ptr, asSl_sl, asAgg_1, asAgg_2, asAgg_3, asAgg_4, asTup_0, asTup_2, asTup_3, asTup_4, if_true', if_false', if_not_true', if_not_false', getD_0, getD_1, getD_2, getD_3]
    rw [List.drop_length]
    cases st with
    | none =>
      rw [if_neg (by simp [startI]), wsucc (by omega)]
      simp only [runsG, List.append_nil]
      exact exit oc oa outs _ h _ ⟨by omega, x.2⟩ (ow.go (D := fun _ => False) ⟨by omega, fun _ _ _ => rfl⟩ (fun _ _ q => q) (fun _ _ q => q)) oA
    | some st =>
      rw [if_pos (decide_eq_true (by simp only [startI]; omega))]
      simp only [runsG, startI]
      obtain ⟨e1, p1, p2, p3, p4, p5, p6⟩ := runs_push (f := f) (Y := Y) oc x ow oA (st, s.u.length) (by omega) (id := nx + 26 + 17) (id2 := nx + 26 + 18) (by omega) (by omega)
      rw [p1]
      simp only [bind_some', asI_int, asB_bool, asStr_str, asP_ptr, asSl_sl, asAgg_1, asAgg_2, asAgg_3, asAgg_4, asTup_0, asTup_2, asTup_3, asTup_4, if_true', if_false', if_not_true', if_not_false', getD_0, getD_1, getD_2, getD_3]
      rw [p2]
      simp only [bind_some', asI_int, asB_bool, asStr_str, asP_ptr, asSl_sl, asAgg_1, asAgg_2, asAgg_3, asAgg_4, asTup_0, asTup_2, asTup_3, asTup_4, if_true', if_false', if_not_true', if_not_false', getD_0, getD_1, getD_2, getD_3]
      rw [wsucc (by omega), p3]
      exact exit e1.c e1.a _ _ _ _ ⟨by have := p4.1; omega, p4.2⟩ (p5.go (D := fun _ => False) ⟨by omega, fun _ _ _ => rfl⟩ (fun _ _ q => q) (fun _ _ q => q)) p6
  | succ d ih =>
    intro lf k st oc oa outs h nx e hl x ow oA ho
    obtain ⟨lf, rfl⟩ : ∃ m, lf = m + 1 := ⟨lf - 1, by omega⟩
    have hk : k < s.u.length := by omega
    have lx := x.1
    have ed := (x.2 _ ls).trans e0
    have eu := (x.2 _ lu).trans w.hu
    have hdrop : s.u.drop k = s.u[k] :: s.u.drop (k + 1) := List.drop_eq_getElem_cons hk
    have hcell : (ints .u8 s.u)[k]? = some (.int .u8 s.u[k]) := by simp [ints, hk]
    generalize s.u[k] = y at *
    rw [F47_L1_eq]
    simp only [bind_some', asI_int, asB_bool, asStr_str, asP_ptr, asSl_sl, asAgg_1, asAgg_2, asAgg_3, asAgg_4, asTup_0, asTup_2, asTup_3, asTup_4, if_true', if_false', if_not_true', if_not_false', getD_0, getD_1, getD_2, getD_3]
    rw [ld_at ed (v := .slice (some (ub, 0)) s.u.length c0) rfl]
    simp only [bind_some', asI_int, asB_bool, asStr_str, asP_ptr, asSl_sl, asAgg_1, asAgg_2, asAgg_3, asAgg_4, asTup_0, asTup_2, asTup_3, asTup_4, if_true', if_false', if_not_true', if_not_false', getD_0, getD_1, getD_2, getD_3]
    rw [if_pos (decide_eq_true (by omega)), ld_at ed (v := .slice (some (ub, 0)) s.u.length c0) rfl]
    simp only [bind_some', asI_int, asB_bool, asStr_str, asP_ptr, asSl_sl, asAgg_1, asAgg_2, asAgg_3, asAgg_4, asTup_0, asTup_2, asTup_3, asTup_4, if_true', if_false', if_not_true', if_not_false', getD_0, getD_1, getD_2, getD_3]
    rw [if_pos (decide_eq_true (by omega)), ld_at ed (v := .slice (some (ub, 0)) s.u.length c0) rfl]
    simp only [bind_some', asI_int, asB_bool, asStr_str, asP_ptr, asSl_sl, asAgg_1, asAgg_2, asAgg_3, asAgg_4, asTup_0, asTup_2, asTup_3, asTup_4, if_true', if_false', if_not_true', if_not_false', getD_0, getD_1, getD_2, getD_3]
    rw [if_pos ⟨by omega, by omega⟩, Nat.zero_add, Nat.mul_one, Int.toNat_natCast, ld_at eu hcell]
    simp only [bind_some', asI_int, asB_bool, asStr_str, asP_ptr, asSl_sl, asAgg_1, asAgg_2, asAgg_3, asAgg_4, asTup_0, asTup_2, asTup_3, asTup_4, if_true', if_false', if_not_true', if_not_false', getD_0, getD_1, getD_2, getD_3]
    obtain ⟨n1, l1, cal, us, vs, q1, q2⟩ := call y h (nx + 26)
    rw [q1]
    simp only [bind_some', asI_int, asB_bool, asStr_str, asP_ptr, asSl_sl, asAgg_1, asAgg_2, asAgg_3, asAgg_4, asTup_0, asTup_2, asTup_3, asTup_4, if_true', if_false', if_not_true', if_not_false', getD_0, getD_1, getD_2, getD_3]
    rw [q2]
    simp only [bind_some', asI_int, asB_bool, asStr_str, asP_ptr, asSl_sl, asAgg_1, asAgg_2, asAgg_3, asAgg_4, asTup_0, asTup_2, asTup_3, asTup_4, if_true', if_false', if_not_true', if_not_false', getD_0, getD_1, getD_2, getD_3]
    rw [F47_J2_eq, hdrop]
    have go : ∀ m, n1 ≤ m → Ext h0 n0 h m ∧ OwnRows RgR h m oa 2 outs := fun m hm => ⟨⟨by omega, x.2⟩, ow.go (D := fun _ => False) ⟨by omega, fun _ _ _ => rfl⟩ (fun _ _ q => q) (fun _ _ q => q)⟩
    cases hp : p y with
    | true =>
      rw [if_true']
      cases st with
      | none =>
        rw [if_pos (by simp [startI]), wsucc (by omega)]
        simp only [runsG, hp, if_true]
        exact ih lf (k + 1) (some k) oc oa outs h _ (by omega) (by omega) (go _ (by omega)).1 (go _ (by omega)).2 oA (by omega)
      | some st =>
        have hst : ¬ (decide (startI (some st) < 0) = true) := by
          intro q; have q := of_decide_eq_true q; simp only [startI] at q; omega
        rw [if_neg hst, if_neg (by simp), wsucc (by omega)]
        simp only [runsG, hp, if_true]
        exact ih lf (k + 1) (some st) oc oa outs h _ (by omega) (by omega) (go _ (by omega)).1 (go _ (by omega)).2 oA (by omega)
    | false =>
      rw [if_false', if_pos (by simp)]
      cases st with
      | none =>
        rw [if_neg (by simp [startI]), wsucc (by omega)]
        simp only [runsG, hp]
        rw [if_neg (by simp)]
        exact ih lf (k + 1) none oc oa outs h _ (by omega) (by omega) (go _ (by omega)).1 (go _ (by omega)).2 oA (by omega)
      | some st =>
        rw [if_pos (decide_eq_true (by simp only [startI]; omega))]
        simp only [runsG, hp, startI]
        rw [if_neg (by simp)]
        obtain ⟨e1, p1, p2, p3, p4, p5, p6⟩ := runs_push (f := f) (Y := Y) oc (go n1 (by omega)).1 (go n1 (by omega)).2 oA (st, k) (by omega) (id := n1 + 17) (id2 := n1 + 18) (by omega) (by omega)
        rw [p1]
        simp only [bind_some', asI_int, asB_bool, asStr_str, asP_ptr, asSl_sl, asAgg_1, asAgg_2, asAgg_3, asAgg_4, asTup_0, asTup_2, asTup_3, asTup_4, if_true', if_false', if_not_true', if_not_false', getD_0, getD_1, getD_2, getD_3]
        rw [p2]
        simp only [bind_some', asI_int, asB_bool, asStr_str, asP_ptr, asSl_sl, asAgg_1, asAgg_2, asAgg_3, asAgg_4, asTup_0, asTup_2, asTup_3, asTup_4, if_true', if_false', if_not_true', if_not_false', getD_0, getD_1, getD_2, getD_3]
        rw [wsucc (by omega), p3, show outs ++ (st, k) :: runsG p (s.u.drop (k + 1)) (k + 1) none = outs ++ [(st, k)] ++ runsG p (s.u.drop (k + 1)) (k + 1) none by simp]
        exact ih lf (k + 1) none e1.c e1.a _ _ (n1 + 24) (by omega) (by omega) ⟨by omega, p4.2⟩ (p5.go (D := fun _ => False) ⟨by omega, fun _ _ _ => rfl⟩ (fun _ _ q => q) (fun _ _ q => q)) p6 (by simp; omega)

theorem runs_spec {f : Nat} {Y : YldF} {h0 : AHeap} {n0 sp ub : Nat} {la : Option (Nat × Nat)} {s : SP} (w : Spc h0 n0 sp ub la s) (hu : s.u.length ≤ 100000) (hf : s.u.length + 4 ≤ f) {cf : AV} {p : Int → Bool}
    (call : ∀ (x : Int) (h : AHeap) (nx : Nat), ∃ nx', nx ≤ nx' ∧ ∃ cal us vs, asCal cf = some (cal, us, vs) ∧ callC (callP Try.prog keepT (f - 1) Y) Y cal (us ++ [.int .u8 x] ++ vs) h nx = some (.bool (p x), h, nx')) :
    ∃ a c h' nx', callP Try.prog keepT f Y 47 [.ptr (some (sp, 0)), cf] h0 n0 = some (.slice a (runsG p s.u 0 none).length c, h', nx') ∧ Ext h0 n0 h' nx' ∧ OwnRows RgR h' nx' a 2 (runsG p s.u 0 none) ∧ (∀ i, ownOf a i → n0 ≤ i) := by
  obtain ⟨f, rfl⟩ : ∃ m, f = m + 1 := ⟨f - 1, by omega⟩
  rw [F47_eq]
  have x0 : Ext h0 n0 h0 (n0 + 4) := ⟨by omega, fun _ _ => rfl⟩
  obtain ⟨a, c, h', nx', r⟩ := runs_loop (f := f) (Y := Y) w hu call s.u.length f 0 none false none [] h0 (n0 + 4) (by omega) (by omega) x0 (OwnRows.nil _ _ _ _) (fun i q => (no_own q).elim) (Nat.le_refl _)
  exact ⟨a, c, h', nx', r⟩

end Go.Proofs.Ytbekpkapkaifiaa.T
