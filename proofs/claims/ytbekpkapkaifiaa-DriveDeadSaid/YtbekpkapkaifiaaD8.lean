/- Drives: what a drive holds after jobs. -/
import Derived.Test.YtbekpkapkaifiaaD7
set_option linter.unusedVariables false
set_option linter.unusedSimpArgs false
namespace Go.Proofs.Ytbekpkapkaifiaa.T
open Go Go.RowKit Go.Proofs

def stL : DS → List Job → DS
  | s, [] => s
  | s, j :: js => stL (doL s j).1 js
theorem stL_app (s : DS) (a b : List Job) : stL s (a ++ b) = stL (stL s a) b := by
  induction a generalizing s with
  | nil => rfl
  | cons j a ih => exact ih _
theorem runL_app (s : DS) (a b : List Job) : runL s (a ++ b) = runL s a ++ runL (stL s a) b := by
  induction a generalizing s with
  | nil => rfl
  | cons j a ih => simp only [List.cons_append, runL, stL, ih]
theorem runL_len (s : DS) (a : List Job) : (runL s a).length = a.length := by
  induction a generalizing s with
  | nil => rfl
  | cons j a ih => simp only [runL, List.length_cons, ih]
def getJ (i : Nat) : Job := ⟨2, (i : Int), 0, []⟩
theorem do_get (s : DS) (hd : s.dead = false) (i : Nat) : doL s (getJ i) = (s, getL s i) := by
  unfold doL getJ
  rw [if_neg (by simp [hd]), if_neg (by simp), if_pos rfl]
  simp
theorem run_gets (s : DS) (hd : s.dead = false) : ∀ l : List Nat, runL s (l.map getJ) = l.map (getL s)
  | [] => rfl
  | i :: l => by
    simp only [List.map_cons, runL, do_get s hd]
    rw [run_gets s hd l]


theorem sameL_loop {f : Nat} (hf : 1010 ≤ f) {Y : YldF} {a b : Option (Nat × Nat)} {ca cb : Bool} {u v : List (List Int)} {h : AHeap} {n0 : Nat} {A : Nat → Prop}
    (su : Rows (fun (x : List Int) r => ∃ w, r = [w] ∧ Byt .u8 h n0 A w x) h n0 A a 1 u) (sv : Rows (fun (x : List Int) r => ∃ w, r = [w] ∧ Byt .u8 h n0 A w x) h n0 A b 1 v) (he : u.length = v.length) (hu : u.length ≤ 1000) (hl : ∀ x ∈ u, x.length ≤ 1000) (d : Nat) :
    ∀ (lf k nx : Nat), k + d = u.length → d < lf → ∃ m, nx ≤ m ∧ F21_L1 (callP Try.prog keepT f) Y f lf a u.length ca b v.length cb (k : Int) h nx = some (.bool (decide (u.drop k = v.drop k)), h, m) := by
  induction d with
  | zero =>
    intro lf k nx e hl
    obtain ⟨lf, rfl⟩ : ∃ m, lf = m + 1 := ⟨lf - 1, by omega⟩
    obtain rfl : k = u.length := by omega
    rw [F21_L1_eq, if_neg (by rw [decide_eq_true_eq]; omega)]
    exact ⟨_, Nat.le_add_right _ 5, by rw [List.drop_length, he, List.drop_length]; rfl⟩
  | succ d ih =>
    intro lf k nx e hlf
    obtain ⟨lf, rfl⟩ : ∃ m, lf = m + 1 := ⟨lf - 1, by omega⟩
    have hk : k < u.length := by omega
    have hk2 : k < v.length := by omega
    obtain ⟨r1, ⟨w1, rfl, a1, c1, rfl, s1, _⟩, _, rd1⟩ := su.read0 (R := Res) (List.getElem?_eq_getElem hk) (by omega)
    obtain ⟨r2, ⟨w2, rfl, a2, c2, rfl, s2, _⟩, _, rd2⟩ := sv.read0 (R := Res) (List.getElem?_eq_getElem hk2) (by omega)
    rw [F21_L1_eq, if_pos (decide_eq_true (by omega)), rd1 _ _ rfl]
    simp only [bind_some', asI_int, asB_bool, asStr_str, asP_ptr, asSl_sl, asAgg_1, asAgg_2, asAgg_3, asAgg_4, asTup_0, asTup_2, asTup_3, asTup_4, if_true', if_false', if_not_true', if_not_false', getD_0, getD_1, getD_2, getD_3]
    rw [rd2 _ _ rfl]
    simp only [bind_some', asI_int, asB_bool, asStr_str, asP_ptr, asSl_sl, asAgg_1, asAgg_2, asAgg_3, asAgg_4, asTup_0, asTup_2, asTup_3, asTup_4, if_true', if_false', if_not_true', if_not_false', getD_0, getD_1, getD_2, getD_3]
    obtain ⟨m1, l1, g1⟩ := same_spec hf Y c1 c2 s1 s2 (hl _ (List.getElem_mem hk)) (nx + 14)
    rw [g1]
    simp only [bind_some', asI_int, asB_bool, asStr_str, asP_ptr, asSl_sl, asAgg_1, asAgg_2, asAgg_3, asAgg_4, asTup_0, asTup_2, asTup_3, asTup_4, if_true', if_false', if_not_true', if_not_false', getD_0, getD_1, getD_2, getD_3]
    rw [List.drop_eq_getElem_cons hk, List.drop_eq_getElem_cons hk2]
    by_cases c : u[k] = v[k]
    · rw [decide_eq_true c]
      rw [if_neg (by decide), wsucc (by omega)]
      obtain ⟨m, l, q⟩ := ih lf (k + 1) (m1 + 3) (by omega) (by omega)
      refine ⟨m, by omega, ?_⟩
      rw [q, c]; simp only [List.cons.injEq, true_and]
    · rw [decide_eq_false c, if_pos (by decide)]
      exact ⟨m1 + 1, by omega, by simp only [List.cons.injEq, c, false_and, decide_false]⟩

/-- Lists of bytes. -/
def BytL (h : AHeap) (nx : Nat) (a : Option (Nat × Nat)) (u : List (List Int)) : Prop := Rows (fun (x : List Int) r => ∃ w, r = [w] ∧ Byt .u8 h nx (fun _ => False) w x) h nx (fun _ => False) a 1 u
theorem BytL.ext {h h' : AHeap} {nx nx' : Nat} {a : Option (Nat × Nat)} {u : List (List Int)} (w : BytL h nx a u) (x : Ext h nx h' nx') : BytL h' nx' a u :=
  Rows.go w (x.fr fun _ => False) (fun _ _ q => q) (fun _ _ q => q) (fun _ _ ⟨w, e, b⟩ => ⟨w, e, b.go (x.fr fun _ => False) (fun _ _ q => q) (fun _ _ q => q)⟩)
theorem sameL_spec {f : Nat} (hf : 1020 ≤ f) (Y : YldF) {a b : Option (Nat × Nat)} (ca cb : Bool) {u v : List (List Int)} {h : AHeap} {n0 : Nat} (su : BytL h n0 a u) (sv : BytL h n0 b v) (hu : u.length ≤ 1000) (hl : ∀ x ∈ u, x.length ≤ 1000) (nx : Nat) :
    ∃ m, nx ≤ m ∧ callP Try.prog keepT f Y 21 [.slice a u.length ca, .slice b v.length cb] h nx = some (.bool (decide (u = v)), h, m) := by
  obtain ⟨f, rfl⟩ : ∃ m, f = m + 1 := ⟨f - 1, by omega⟩
  rw [F21_eq]
  by_cases c : u.length = v.length
  · rw [if_neg (by simp [c])]
    obtain ⟨m, l, q⟩ := sameL_loop (f := f) (by omega) (Y := Y) (ca := ca) (cb := cb) su sv c hu hl u.length f 0 (nx + 7) (by omega) (by omega)
    exact ⟨m, by omega, q⟩
  · rw [if_pos (by rw [bne_iff_ne]; omega)]
    refine ⟨_, Nat.le_add_right _ 7, ?_⟩
    have : ¬ u = v := fun e => c (by rw [e])
    simp [this]

/-- gets, its end: what the last 8 answers hold. -/
theorem gets_loop3 {f : Nat} {Y : YldF} {h0 : AHeap} {n0 : Nat} {xa sa : Option (Nat × Nat)} {xn sn : Nat} {xc sc : Bool} {outs : List (Int × List Int)} (so : Rows (AnsR h0 n0 fun _ => False) h0 n0 (fun _ => False) sa 2 outs) (hs : outs.length = sn) (hx : sn = xn + 8) (hxn : xn ≤ 1000) {g : Nat → List Int} (hg : ∀ i, i < 8 → outs[xn + i]? = some (0, g i) ∧ (g i).length = 128) (d : Nat) :
    ∀ (lf k : Nat) (oc : Bool) (oa : Option (Nat × Nat)) (h : AHeap) (nx : Nat), k + d = 8 → d < lf → Ext h0 n0 h nx → OwnRows (fun (x : List Int) r => ∃ w, r = [w] ∧ Byt .u8 h0 n0 (fun _ => False) w x) h nx oa 1 ((List.range k).map g) → (∀ i, ownOf oa i → n0 ≤ i) →
      ∃ a c h' nx', F19_L3 (callP Try.prog keepT f) Y f lf xa xn xc sa sn sc oa k oc (k : Int) h nx = some (.tuple [.slice a 8 c, .bool true], h', nx') ∧ Ext h0 n0 h' nx' ∧ BytL h' nx' a ((List.range 8).map g) := by
  induction d with
  | zero =>
    intro lf k oc oa h nx e hl x ow oA
    obtain ⟨lf, rfl⟩ : ∃ m, lf = m + 1 := ⟨lf - 1, by omega⟩
    obtain rfl : k = 8 := by omega
    rw [F19_L3_eq, if_neg (by decide)]
    have x' : Ext h0 n0 h (nx + 5) := ⟨by have := x.1; omega, x.2⟩
    exact ⟨_, _, _, _, rfl, x', (ow.rows (A := fun _ => False) (fun _ _ q => q)).go (D := fun _ => False) ⟨by omega, fun _ _ _ => rfl⟩ (fun _ _ q => q) (fun _ _ q => q) (fun _ _ ⟨w, e, b⟩ => ⟨w, e, b.go (x'.fr fun _ => False) (fun _ _ q => q) (fun _ _ q => q)⟩)⟩
  | succ d ih =>
    intro lf k oc oa h nx e hl x ow oA
    obtain ⟨lf, rfl⟩ : ∃ m, lf = m + 1 := ⟨lf - 1, by omega⟩
    have lx := x.1
    obtain ⟨hg1, hg2⟩ := hg k (by omega)
    obtain ⟨r, ⟨w, rfl, a1, c1, rfl, s1, v1⟩, _, rd, _⟩ := (so.go (x.fr fun _ => False) (fun _ _ q => q) (fun _ _ q => q) (fun _ _ r => r) : Rows (AnsR h0 n0 fun _ => False) h nx (fun _ => False) sa 2 outs).read (R := Res) hg1
    rw [hs] at rd
    rw [F19_L3_eq, if_pos (decide_eq_true (by omega)), show wrapA .i64 (((xn : Nat) : Int) + (k : Int)) = ((xn + k : Nat) : Int) by rw [wA (by omega) (by omega)]; omega, rd]
    simp only [bind_some', asI_int, asB_bool, asStr_str, asP_ptr, asSl_sl, asAgg_1, asAgg_2, asAgg_3, asAgg_4, asTup_0, asTup_2, asTup_3, asTup_4, if_true', if_false', if_not_true', if_not_false', getD_0, getD_1, getD_2, getD_3]
    rw [st_all (put_same h (nx + 9) _) (by simp) (by simp) (by simp [allOne, AV.one]), put_put]
    have e1 := put_same h (nx + 9) (some ⟨[.int .i64 0, .slice a1 (g k).length c1], 2, true⟩)
    have x1 : Ext h nx (h.put (nx + 9) (some ⟨[.int .i64 0, .slice a1 (g k).length c1], 2, true⟩)) (nx + 10) := ⟨by omega, fun i hi => put_ne (by omega)⟩
    generalize h.put (nx + 9) (some ⟨[.int .i64 0, .slice a1 (g k).length c1], 2, true⟩) = h1 at *
    rw [ld_at e1 (v := .int .i64 0) rfl]
    simp only [bind_some', asI_int, asB_bool, asStr_str, asP_ptr, asSl_sl, asAgg_1, asAgg_2, asAgg_3, asAgg_4, asTup_0, asTup_2, asTup_3, asTup_4, if_true', if_false', if_not_true', if_not_false', getD_0, getD_1, getD_2, getD_3]
    rw [if_neg (by decide), ld_at e1 (v := .slice a1 (g k).length c1) rfl]
    simp only [bind_some', asI_int, asB_bool, asStr_str, asP_ptr, asSl_sl, asAgg_1, asAgg_2, asAgg_3, asAgg_4, asTup_0, asTup_2, asTup_3, asTup_4, if_true', if_false', if_not_true', if_not_false', getD_0, getD_1, getD_2, getD_3]
    rw [if_neg (by rw [hg2]; decide), F19_J4_eq]
    simp only [bind_some', asI_int, asB_bool, asStr_str, asP_ptr, asSl_sl, asAgg_1, asAgg_2, asAgg_3, asAgg_4, asTup_0, asTup_2, asTup_3, asTup_4, if_true', if_false', if_not_true', if_not_false', getD_0, getD_1, getD_2, getD_3]
    rw [ld_at e1 (v := .slice a1 (g k).length c1) rfl]
    simp only [bind_some', asI_int, asB_bool, asStr_str, asP_ptr, asSl_sl, asAgg_1, asAgg_2, asAgg_3, asAgg_4, asTup_0, asTup_2, asTup_3, asTup_4, if_true', if_false', if_not_true', if_not_false', getD_0, getD_1, getD_2, getD_3]
    have ow1 : OwnRows (fun (x : List Int) r => ∃ w, r = [w] ∧ Byt .u8 h0 n0 (fun _ => False) w x) h1 (nx + 20 + 3) oa 1 ((List.range k).map g) := ow.go (D := fun _ => False) ⟨by omega, fun i hi _ => x1.2 i hi⟩ (fun _ _ q => q) (fun _ _ q => q)
    have hlen : ((List.range k).map g).length = k := by simp
    obtain ⟨e, p1, p2, p3, p4, p5, p6, p7, p8⟩ := ow1.push oc (bytes := 24) (id := nx + 20 + 3) (id2 := nx + 20 + 4) (x := g k) (r := [.slice a1 (g k).length c1]) rfl ⟨_, rfl, a1, c1, rfl, s1, v1⟩ (growOk_of (by omega) (by omega)) (by omega) (by omega)
    rw [hlen] at p2 p4
    rw [p1]
    simp only [bind_some', asI_int, asB_bool, asStr_str, asP_ptr, asSl_sl, asAgg_1, asAgg_2, asAgg_3, asAgg_4, asTup_0, asTup_2, asTup_3, asTup_4, if_true', if_false', if_not_true', if_not_false', getD_0, getD_1, getD_2, getD_3]
    rw [p2]
    simp only [bind_some', asI_int, asB_bool, asStr_str, asP_ptr, asSl_sl, asAgg_1, asAgg_2, asAgg_3, asAgg_4, asTup_0, asTup_2, asTup_3, asTup_4, if_true', if_false', if_not_true', if_not_false', getD_0, getD_1, getD_2, getD_3]
    rw [wsucc (by omega), p4]
    have hmap : (List.range (k + 1)).map g = (List.range k).map g ++ [g k] := by rw [List.range_succ, List.map_append]; rfl
    rw [← hmap] at p5
    have x2 : Ext h0 n0 ((h1.put (nx + 20 + 3) (some ⟨[.slice a1 (g k).length c1], 1, true⟩)).puts e.sets) (nx + 20 + 9) := ⟨by omega, fun i hi => by rw [p6.2 i (by omega) (fun q => by have := oA i q; omega), x1.2 i (by omega), x.2 i hi]⟩
    exact ih lf (k + 1) e.c e.a _ (nx + 20 + 9) (by omega) (by omega) x2 (p5.go (D := fun _ => False) ⟨by omega, fun _ _ _ => rfl⟩ (fun _ _ q => q) (fun _ _ q => q)) (fun i q => by rw [p3] at q; obtain ⟨o, q⟩ := q; simp only [Option.some.injEq, Prod.mk.injEq] at q; omega)

end Go.Proofs.Ytbekpkapkaifiaa.T
