/- A drive: get. -/
import Derived.Test.YtbekpkapkaifiaaD2
set_option linter.unusedVariables false
set_option linter.unusedSimpArgs false
namespace Go.Proofs.Ytbekpkapkaifiaa.T
open Go Go.RowKit Go.Proofs

/-- What was put last at i. -/
def lastL (i : Nat) : List (Nat × List Int) → Option (List Int)
  | [] => none
  | w :: W => (lastL i W).orElse fun _ => if w.1 = i then some w.2 else none
theorem lastL_snoc (i : Nat) (w : Nat × List Int) : ∀ W, lastL i (W ++ [w]) = if w.1 = i then some w.2 else lastL i W
  | [] => by simp only [List.nil_append, lastL]; split <;> simp
  | u :: W => by
    simp only [List.cons_append, lastL]
    rw [lastL_snoc i w W]
    split <;> simp

theorem YX_same (l : Nat) (r : List AV → AHeap → Nat → Option (AV × AHeap × Nat)) (Y : YldF) : YX l r Y l = r := by
  funext a h c; unfold YX; rw [if_pos rfl]

noncomputable def getR (f : Nat) (Y : YldF) (n l v r : Nat) : List AV → AHeap → Nat → Option (AV × AHeap × Nat) := fun a8 h9 c10 => if Nat.beq a8.length 2 = true then
 ((asI .i64 (a8.getD 0 .bad)).bind fun n11 =>
 (asAgg 2 (a8.getD 1 .bad)).bind fun d12 =>
 (asI .i64 (d12.getD 0 .bad)).bind fun n13 =>
 (asSl (d12.getD 1 .bad)).bind fun s14 =>
 F56_R1 (callP Try.prog keepT f) Y n l (some (v, 0)) (some (r, 0)) n11 n13 s14.1 s14.2.1 s14.2.2 h9 c10)
 else none

theorem back_loop {f g : Nat} (hf : 1 ≤ f) {Y Y' : YldF} {A : Nat → Prop} {l v r b n : Nat} {i : Nat} {W : List (Nat × List Int)} {wa : Option (Nat × Nat)} {wc : Bool} {hb : AHeap} {nb : Nat} (hW : W.length ≤ 1000)
    (lv : v < l) (lr : r < l) (lb : b < l) (ll : l < nb) (n1 : v ≠ r) (n2 : b ≠ r) (ow : Rows (PutR hb nb A) hb nb (fun i => i = l) wa 2 W) (al : A l) (ar : A r) (hA : ∀ i, A i → i < nb)
    (ev : hb v = some ⟨[.int .i64 (i : Int)], 1, true⟩) (er : hb r = some ⟨[.int .i64 0, .slice none 0 false], 2, true⟩) (eb : hb b = some ⟨[.slice wa W.length wc], 1, true⟩) :
    ∀ (m lf : Nat) (h : AHeap) (nx : Nat), m ≤ W.length → m < lf → Frm (fun i => i = l) hb nb h nx → h l = some ⟨[], LB, true⟩ →
      ∃ h' nx', F68_L1 (callP Try.prog keepT g) (YX l (getR f Y n l v r) Y') g lf (.yld l) (some (b, 0)) ((m : Int) - 1) h nx = some (.tuple [], h', nx') ∧
        match lastL i (W.take m) with
        | none => h' l = some ⟨[], LB, true⟩ ∧ Frm (fun i => i = l) hb nb h' nx'
        | some d => h' l = some ⟨[], LB + 2, true⟩ ∧ Frm (fun i => i = l ∨ i = r) hb nb h' nx' ∧ ∃ w, h' r = some ⟨[.int .i64 0, w], 2, true⟩ ∧ Byt .u8 h' nx' (fun i => i < nb) w d ∧ d.length = 128 := by
  intro m
  induction m with
  | zero =>
    intro lf h nx _ hl hh e
    obtain ⟨lf, rfl⟩ : ∃ m, lf = m + 1 := ⟨lf - 1, by omega⟩
    rw [F68_L1_eq, if_neg (by rw [decide_eq_true_eq]; omega)]
    exact ⟨_, _, rfl, by simp only [List.take_zero, lastL]; exact ⟨e, hh.le (by omega)⟩⟩
  | succ m ih =>
    intro lf h nx hm hl hh e
    obtain ⟨lf, rfl⟩ : ∃ m, lf = m + 1 := ⟨lf - 1, by omega⟩
    have hk : m < W.length := by omega
    have hnx := hh.1
    have rw1 : Rows (PutR h nx A) h nx (fun i => i = l) wa 2 W := ow.go hh (fun i _ q => q) (fun _ _ a => a) (fun _ _ w => w.go hh (fun i _ q => by rw [q]; exact al) (fun _ _ a => a))
    obtain ⟨rr, pr, _, rd, _⟩ := rw1.read (R := Res) (List.getElem?_eq_getElem hk)
    obtain ⟨u, rfl, wl, bt⟩ := pr
    obtain ⟨q, c, rfl, sq⟩ := byt_some bt 128 wl (by omega)
    have hsn : W.take (m + 1) = W.take m ++ [W[m]] := by rw [List.take_add_one, List.getElem?_eq_getElem hk]; rfl
    rw [hsn, lastL_snoc]
    generalize hw : W[m] = w at *
    have ebh : h b = some ⟨[.slice wa W.length wc], 1, true⟩ := (hh.2 b (by omega) (by omega)).trans eb
    rw [F68_L1_eq, if_pos (decide_eq_true (by omega))]
    simp only [bind_some', asI_int, asB_bool, asStr_str, asP_ptr, asSl_sl, asAgg_1, asAgg_2, asAgg_3, asAgg_4, asTup_0, asTup_2, asTup_3, asTup_4, if_true', if_false', if_not_true', if_not_false', getD_0, getD_1, getD_2, getD_3]
    rw [ld_at ebh (v := .slice wa W.length wc) rfl]
    simp only [bind_some', asI_int, asB_bool, asStr_str, asP_ptr, asSl_sl, asAgg_1, asAgg_2, asAgg_3, asAgg_4, asTup_0, asTup_2, asTup_3, asTup_4, if_true', if_false', if_not_true', if_not_false', getD_0, getD_1, getD_2, getD_3]
    rw [show ((m + 1 : Nat) : Int) - 1 = (m : Int) by omega, rd]
    simp only [bind_some', asI_int, asB_bool, asStr_str, asP_ptr, asSl_sl, asAgg_1, asAgg_2, asAgg_3, asAgg_4, asTup_0, asTup_2, asTup_3, asTup_4, if_true', if_false', if_not_true', if_not_false', getD_0, getD_1, getD_2, getD_3]
    rw [asCal_yld]
    simp only [bind_some', asI_int, asB_bool, asStr_str, asP_ptr, asSl_sl, asAgg_1, asAgg_2, asAgg_3, asAgg_4, asTup_0, asTup_2, asTup_3, asTup_4, if_true', if_false', if_not_true', if_not_false', getD_0, getD_1, getD_2, getD_3]
    rw [callC_yld, YX_same]
    simp only [getR, nil_app, List.append_nil]
    rw [if_pos (by simp)]
    simp only [bind_some', asI_int, asB_bool, asStr_str, asP_ptr, asSl_sl, asAgg_1, asAgg_2, asAgg_3, asAgg_4, asTup_0, asTup_2, asTup_3, asTup_4, if_true', if_false', if_not_true', if_not_false', getD_0, getD_1, getD_2, getD_3]
    rw [F56_R1_eq]
    simp only [bind_some', asI_int, asB_bool, asStr_str, asP_ptr, asSl_sl, asAgg_1, asAgg_2, asAgg_3, asAgg_4, asTup_0, asTup_2, asTup_3, asTup_4, if_true', if_false', if_not_true', if_not_false', getD_0, getD_1, getD_2, getD_3]
    rw [st_all (put_same h (nx + 10) _) (by simp) (by simp) (by simp [allOne, AV.one]), put_put]
    have hl1 : (h.put (nx + 10) (some ⟨[.int .i64 (w.1 : Int), .slice (some q) 128 c], 2, true⟩)) l = some ⟨[], LB, true⟩ := (put_ne (by omega)).trans e
    rw [if_pos (isReady_at hl1)]
    generalize hh1 : AHeap.put (AHeap.put h (nx + 10) _) l _ = h1
    have fr1 : Frm (fun i => i = l) h nx h1 (nx + 11) := by rw [← hh1]; exact ((Frm.refl _ h nx).put (m := nx + 11) (.inr (by omega)) (by omega)).put (.inl rfl) (by omega)
    have el : h1 l = some ⟨[], LB + 1, true⟩ := by rw [← hh1, put_same]
    have ec : h1 (nx + 10) = some ⟨[.int .i64 (w.1 : Int), .slice (some q) 128 c], 2, true⟩ := by rw [← hh1, put_ne (by omega), put_same]
    have evh : h1 v = some ⟨[.int .i64 (i : Int)], 1, true⟩ := (fr1.2 v (by omega) (by omega)).trans ((hh.2 v (by omega) (by omega)).trans ev)
    have hh1' : Frm (fun i => i = l) hb nb h1 (nx + 11) := hh.trans fr1 (fun _ _ q => q)
    rw [ld_at ec (v := .int .i64 (w.1 : Int)) rfl]
    simp only [bind_some', asI_int, asB_bool, asStr_str, asP_ptr, asSl_sl, asAgg_1, asAgg_2, asAgg_3, asAgg_4, asTup_0, asTup_2, asTup_3, asTup_4, if_true', if_false', if_not_true', if_not_false', getD_0, getD_1, getD_2, getD_3]
    rw [ld_at evh (v := .int .i64 (i : Int)) rfl]
    simp only [bind_some', asI_int, asB_bool, asStr_str, asP_ptr, asSl_sl, asAgg_1, asAgg_2, asAgg_3, asAgg_4, asTup_0, asTup_2, asTup_3, asTup_4, if_true', if_false', if_not_true', if_not_false', getD_0, getD_1, getD_2, getD_3]
    by_cases hi : w.1 = i
    · rw [if_pos (by simp [hi]), ld_at ec (v := .slice (some q) 128 c) rfl]
      simp only [bind_some', asI_int, asB_bool, asStr_str, asP_ptr, asSl_sl, asAgg_1, asAgg_2, asAgg_3, asAgg_4, asTup_0, asTup_2, asTup_3, asTup_4, if_true', if_false', if_not_true', if_not_false', getD_0, getD_1, getD_2, getD_3]
      have bt1 : Byt .u8 h1 (nx + 11) A (.slice (some q) 128 c) w.2 := bt.go fr1 (fun i _ q => by rw [q]; exact al) (fun _ _ a => a)
      obtain ⟨_, _, e1, sl1, _⟩ := bt1
      simp only [AV.slice.injEq] at e1
      obtain ⟨e1, e2, e3⟩ := e1
      subst e1
      rw [← e2] at sl1
      obtain ⟨a', c', h2, nx2, k1, k2, k3⟩ := clone_spec hf Y (h := h1) (nx := nx + 10 + 11) (nxs := nx + 11) c sl1 (by omega) (by omega)
      rw [k1]
      simp only [bind_some', asI_int, asB_bool, asStr_str, asP_ptr, asSl_sl, asAgg_1, asAgg_2, asAgg_3, asAgg_4, asTup_0, asTup_2, asTup_3, asTup_4, if_true', if_false', if_not_true', if_not_false', getD_0, getD_1, getD_2, getD_3]
      have x2 := k2.1
      have er2 : h2 r = some ⟨[.int .i64 0, .slice none 0 false], 2, true⟩ := (k2.2 r (by omega)).trans ((hh1'.2 r (by omega) (by omega)).trans er)
      have el2 : h2 l = some ⟨[], LB + 1, true⟩ := (k2.2 l (by omega)).trans el
      rw [st_all er2 (by simp) (by simp) (by simp [allOne, AV.one])]
      have el3 : (h2.put r (some ⟨[.int .i64 0, .slice a' 128 c'], 2, true⟩)) l = some ⟨[], LB + 1, true⟩ := (put_ne (by omega)).trans el2
      rw [if_pos (isReady_at el3)]
      rw [if_pos hi]
      have fr2 : Frm (fun i => i = l ∨ i = r) h1 (nx + 11) h2 nx2 := by have := k2.fr (fun i => i = l ∨ i = r); exact ⟨by omega, fun i hi hd => this.2 i (by omega) hd⟩
      have fr3 : Frm (fun i => i = l ∨ i = r) h1 (nx + 11) ((h2.put r (some ⟨[.int .i64 0, .slice a' 128 c'], 2, true⟩)).put l (some ⟨[], LB + 2, true⟩)) nx2 := (fr2.put (m := nx2) (.inl (.inr rfl)) (by omega)).put (.inl (.inl rfl)) (by omega)
      have k3s := k3.sl
      have av : Av (fun i => i < nb) a' 128 := k3.av fun i i1 _ a => by omega
      have fr4 : Frm (fun i => i = l ∨ i = r) h2 nx2 ((h2.put r (some ⟨[.int .i64 0, .slice a' 128 c'], 2, true⟩)).put l (some ⟨[], LB + 2, true⟩)) nx2 := ((Frm.refl _ h2 nx2).put (m := nx2) (.inl (.inr rfl)) (by omega)).put (.inl (.inl rfl)) (by omega)
      refine ⟨_, _, rfl, put_same _ _ _, (hh1'.more fun _ _ q => .inl q).trans fr3 fun _ _ q => q, .slice a' 128 c', ?_, ?_, wl⟩
      · exact (put_ne (by omega)).trans (put_same _ _ _)
      · exact ⟨a', c', by rw [wl], by rw [wl]; exact k3s.fr (av.less (D := fun i => i = l ∨ i = r) fun i q => by omega) fr4, by rw [wl]; exact av⟩
    · rw [if_neg (by rw [beq_iff_eq]; omega), if_pos (isReady_at el)]
      rw [if_neg hi, show wrapA .i64 ((m : Int) - 1) = (m : Int) - 1 from wA (by omega) (by omega)]
      exact ih lf (h1.put l (some ⟨[], LB, true⟩)) (nx + 10 + 6 + 3) (by omega) (by omega) (hh1'.put (.inl rfl) (by omega)) (put_same _ _ _)

def noughts (n : Nat) : List Int := List.replicate n 0
/-- What a get answers. -/
def getL (s : DS) (i : Nat) : Int × List Int :=
  match lastL i s.waits with
  | some d => (0, d)
  | none => match s.plate[i]? with
    | none => (2, [])
    | some c => if c.broken = true then (12, []) else (0, c.data.getD (noughts 128))

theorem get_spec {f : Nat} (hf : 305 ≤ f) (Y : YldF) {h : AHeap} {nx : Nat} {A : Nat → Prop} {dv pl : Nat} {wa : Option (Nat × Nat)} {s : DS} (w : Drv h nx A dv pl wa s) (hA : ∀ i, A i → i < nx) (hW : s.waits.length ≤ 300) {i : Nat} (hi : i < s.plate.length) (hn : s.plate.length ≤ 1000) :
    ∃ v h' nx', callP Try.prog keepT f Y 56 [.ptr (some (dv, 0)), .int .i64 (i : Int)] h nx = some (.agg [.int .i64 (getL s i).1, v], h', nx') ∧ Ext h nx h' nx' ∧ Byt .u8 h' nx' (fun i => i < nx) v (getL s i).2 := by
  obtain ⟨f, rfl⟩ : ∃ m, f = m + 1 := ⟨f - 1, by omega⟩
  obtain ⟨c, wc, ed⟩ := w.hd
  have ld := w.ld; have lp := w.lp
  rw [F56_eq]
  dsimp only
  generalize hh1 : AHeap.put (AHeap.put h nx _) (nx + 1) _ = h1
  have x1 : Ext h nx h1 (nx + 2) := ⟨by omega, fun i hi => by rw [← hh1, put_ne (by omega), put_ne (by omega)]⟩
  have e1 : h1 nx = some ⟨[.int .i64 (i : Int)], 1, true⟩ := by rw [← hh1, put_ne (by omega), put_same]
  have e2 : h1 (nx + 1) = some ⟨[.int .i64 0, .slice none 0 false], 2, true⟩ := by rw [← hh1, put_same]
  have ed1 := (x1.2 dv ld).trans ed
  simp only [bind_some', asI_int, asB_bool, asStr_str, asP_ptr, asSl_sl, asAgg_1, asAgg_2, asAgg_3, asAgg_4, asTup_0, asTup_2, asTup_3, asTup_4, if_true', if_false', if_not_true', if_not_false', getD_0, getD_1, getD_2, getD_3]
  rw [Nat.zero_add, ld_at ed1 (v := .slice wa s.waits.length wc) rfl]
  simp only [bind_some', asI_int, asB_bool, asStr_str, asP_ptr, asSl_sl, asAgg_1, asAgg_2, asAgg_3, asAgg_4, asTup_0, asTup_2, asTup_3, asTup_4, if_true', if_false', if_not_true', if_not_false', getD_0, getD_1, getD_2, getD_3]
  obtain ⟨g, rfl⟩ : ∃ m, f = m + 1 := ⟨f - 1, by omega⟩
  rw [F64_eq]
  simp only [bind_some', asI_int, asB_bool, asStr_str, asP_ptr, asSl_sl, asAgg_1, asAgg_2, asAgg_3, asAgg_4, asTup_0, asTup_2, asTup_3, asTup_4, if_true', if_false', if_not_true', if_not_false', getD_0, getD_1, getD_2, getD_3]
  rw [asFn_fn]
  simp only [bind_some', asI_int, asB_bool, asStr_str, asP_ptr, asSl_sl, asAgg_1, asAgg_2, asAgg_3, asAgg_4, asTup_0, asTup_2, asTup_3, asTup_4, if_true', if_false', if_not_true', if_not_false', getD_0, getD_1, getD_2, getD_3]
  rw [nil_app]
  obtain ⟨l, hl⟩ : ∃ l, l = nx + 7 + 4 := ⟨_, rfl⟩
  rw [← hl]
  change ∃ v h' nx', ((callP Try.prog keepT (g + 1) (YX l (getR (g + 1) Y (g + 1) l nx (nx + 1)) Y) 68 [AV.yld l, AV.ptr (some (nx + 7, 0))] _ _).bind _ = _) ∧ _
  generalize hhb : AHeap.put (AHeap.put h1 (nx + 7) _) l _ = hb
  have xb : Ext h1 (nx + 2) hb (l + 1) := ⟨by omega, fun i hi => by rw [← hhb, put_ne (by omega), put_ne (by omega)]⟩
  have xhb : Ext h nx hb (l + 1) := x1.trans xb
  have eb : hb (nx + 7) = some ⟨[.slice wa s.waits.length wc], 1, true⟩ := by rw [← hhb, put_ne (by omega), put_same]
  have el : hb l = some ⟨[], LB, true⟩ := by rw [← hhb, put_same]
  have nw : ∀ i, ownOf wa i → ¬ (False : Prop) := fun _ _ q => q
  have rw0 : Rows (PutR hb (l + 1) fun i => A i ∨ i = l ∨ i = nx + 1) hb (l + 1) (fun i => i = l) wa 2 s.waits :=
    (w.hw.rows (A := fun _ => False) nw).go (xhb.fr fun _ => False) (fun _ _ q => q) (fun i hi q => by omega) fun _ _ r => r.go (xhb.fr fun _ => False) (fun _ _ q => q.elim) (fun i hi q => by rcases q with q | q | q; exact q; omega; omega)
  obtain ⟨h2, nx2, k1, k2⟩ := back_loop (f := g + 1) (g := g) (by omega) (Y := Y) (Y' := Y) (n := g + 1) (i := i) (by omega) (by omega) (by omega) (by omega) (by omega) (by omega) (by omega) rw0 (.inr (.inl rfl)) (.inr (.inr rfl)) (fun i q => by rcases q with q | q | q; have := hA i q; omega; omega; omega)
    ((xb.2 nx (by omega)).trans e1) ((xb.2 (nx + 1) (by omega)).trans e2) eb s.waits.length g hb (l + 1 + 4) (Nat.le_refl _) (by omega) ⟨by omega, fun _ _ _ => rfl⟩ el
  rw [F68_eq]
  simp only [bind_some', asI_int, asB_bool, asStr_str, asP_ptr, asSl_sl, asAgg_1, asAgg_2, asAgg_3, asAgg_4, asTup_0, asTup_2, asTup_3, asTup_4, if_true', if_false', if_not_true', if_not_false', getD_0, getD_1, getD_2, getD_3]
  rw [ld_at eb (v := .slice wa s.waits.length wc) rfl]
  simp only [bind_some', asI_int, asB_bool, asStr_str, asP_ptr, asSl_sl, asAgg_1, asAgg_2, asAgg_3, asAgg_4, asTup_0, asTup_2, asTup_3, asTup_4, if_true', if_false', if_not_true', if_not_false', getD_0, getD_1, getD_2, getD_3]
  rw [show wrapA .i64 (((s.waits.length : Nat) : Int) - 1) = ((s.waits.length : Nat) : Int) - 1 from wA (by omega) (by omega), k1]
  simp only [bind_some', asI_int, asB_bool, asStr_str, asP_ptr, asSl_sl, asAgg_1, asAgg_2, asAgg_3, asAgg_4, asTup_0, asTup_2, asTup_3, asTup_4, if_true', if_false', if_not_true', if_not_false', getD_0, getD_1, getD_2, getD_3]
  rw [List.take_length] at k2
  cases hlast : lastL i s.waits with
  | some d =>
    rw [hlast] at k2
    obtain ⟨q1, q2, v, q3, q4, q5⟩ := k2
    rw [show getL s i = (0, d) by simp only [getL, hlast]]
    rw [q1]
    simp only [bind_some', asI_int, asB_bool, asStr_str, asP_ptr, asSl_sl, asAgg_1, asAgg_2, asAgg_3, asAgg_4, asTup_0, asTup_2, asTup_3, asTup_4, if_true', if_false', if_not_true', if_not_false', getD_0, getD_1, getD_2, getD_3]
    rw [if_neg (by rw [Nat.beq_eq]; omega), if_pos (by rw [Nat.beq_eq])]
    obtain ⟨a, c2, rfl, sl, av⟩ := q4
    have e3 : (h2.put l none) (nx + 1) = some ⟨[.int .i64 0, .slice a d.length c2], 2, true⟩ := (put_ne (by omega)).trans q3
    rw [ldr_all e3 (by simp)]
    simp only [bind_some', asI_int, asB_bool, asStr_str, asP_ptr, asSl_sl, asAgg_1, asAgg_2, asAgg_3, asAgg_4, asTup_0, asTup_2, asTup_3, asTup_4, if_true', if_false', if_not_true', if_not_false', getD_0, getD_1, getD_2, getD_3]
    have l2 := q2.1
    refine ⟨_, _, _, rfl, ⟨by omega, fun j hj => ?_⟩, ?_⟩
    · rw [put_ne (by omega), q2.2 j (by omega) (by omega), xhb.2 j hj]
    · have fr : Frm (fun i => i = l) h2 nx2 (h2.put l none) nx2 := (Frm.refl _ h2 nx2).put (.inl rfl) (Nat.le_refl _)
      exact Byt.go ⟨a, c2, rfl, sl, av⟩ fr (fun i _ q => by omega) (fun i _ q => by omega)
  | none =>
    rw [hlast] at k2
    obtain ⟨q1, q2⟩ := k2
    rw [q1]
    simp only [bind_some', asI_int, asB_bool, asStr_str, asP_ptr, asSl_sl, asAgg_1, asAgg_2, asAgg_3, asAgg_4, asTup_0, asTup_2, asTup_3, asTup_4, if_true', if_false', if_not_true', if_not_false', getD_0, getD_1, getD_2, getD_3]
    rw [if_pos (by rw [Nat.beq_eq])]
    have l2 := q2.1
    generalize hh3 : h2.put l none = h3
    have x3 : Ext hb (nx + 2) h3 nx2 := ⟨by omega, fun j hj => by rw [← hh3, put_ne (by omega), q2.2 j (by omega) (by omega)]⟩
    have x3h : Ext h nx h3 nx2 := ⟨by omega, fun j hj => (x3.2 j (by omega)).trans (xhb.2 j hj)⟩
    have ed3 := (x3h.2 dv ld).trans ed
    have e13 := (x3.2 nx (by omega)).trans ((xb.2 nx (by omega)).trans e1)
    have e23 := (x3.2 (nx + 1) (by omega)).trans ((xb.2 (nx + 1) (by omega)).trans e2)
    obtain ⟨rows, hr, len, ep⟩ := w.hp
    have ep3 := (x3h.2 pl lp).trans ep
    obtain ⟨sc, hsc⟩ : ∃ sc, s.plate[i]? = some sc := ⟨_, List.getElem?_eq_getElem hi⟩
    obtain ⟨r, hri, v, rfl, hv⟩ := hr.get i sc hsc
    have hfl := flat_len len
    rw [hr.len] at hfl
    have vs : ∃ va vn vc, v = .slice va vn vc := by
      rcases hv with ⟨_, e⟩ | ⟨bs, _, _, a, c, e, _⟩ <;> exact ⟨_, _, _, e⟩
    obtain ⟨va, vn, vc, rfl⟩ := vs
    rw [ld_at ed3 (v := .slice (some (pl, 0)) s.plate.length c) rfl]
    simp only [bind_some', asI_int, asB_bool, asStr_str, asP_ptr, asSl_sl, asAgg_1, asAgg_2, asAgg_3, asAgg_4, asTup_0, asTup_2, asTup_3, asTup_4, if_true', if_false', if_not_true', if_not_false', getD_0, getD_1, getD_2, getD_3]
    rw [ld_at e13 (v := .int .i64 (i : Int)) rfl]
    simp only [bind_some', asI_int, asB_bool, asStr_str, asP_ptr, asSl_sl, asAgg_1, asAgg_2, asAgg_3, asAgg_4, asTup_0, asTup_2, asTup_3, asTup_4, if_true', if_false', if_not_true', if_not_false', getD_0, getD_1, getD_2, getD_3]
    rw [if_pos ⟨by omega, by omega⟩, Nat.zero_add, Int.toNat_natCast, ldr_at ep3 (by omega), flat_drop len hri]
    simp only [bind_some', asI_int, asB_bool, asStr_str, asP_ptr, asSl_sl, asAgg_1, asAgg_2, asAgg_3, asAgg_4, asTup_0, asTup_2, asTup_3, asTup_4, if_true', if_false', if_not_true', if_not_false', getD_0, getD_1, getD_2, getD_3]
    rw [st_all (put_same h3 (nx2 + 7) _) (by simp) (by simp) (by simp [allOne, AV.one])]
    rw [put_put]
    have e4 : (h3.put (nx2 + 7) (some ⟨[.slice va vn vc, .bool sc.broken], 2, true⟩)) (nx2 + 7) = _ := put_same _ _ _
    have x4 : Ext h3 nx2 (h3.put (nx2 + 7) (some ⟨[.slice va vn vc, .bool sc.broken], 2, true⟩)) (nx2 + 8) := ⟨by omega, fun j hj => put_ne (by omega)⟩
    generalize h3.put (nx2 + 7) (some ⟨[.slice va vn vc, .bool sc.broken], 2, true⟩) = h4 at *
    have a1 : AllApart [([nx2 + 7], [dv]), ([nx2 + 7], [nx]), ([nx2 + 7], [pl])] := by
      refine ⟨?_, ?_, ?_, trivial⟩ <;> intro q hq hq2 <;> simp only [List.mem_singleton] at hq hq2 <;> omega
    rw [ifApart_pos a1, ld_at e4 (v := .bool sc.broken) rfl]
    simp only [bind_some', asI_int, asB_bool, asStr_str, asP_ptr, asSl_sl, asAgg_1, asAgg_2, asAgg_3, asAgg_4, asTup_0, asTup_2, asTup_3, asTup_4, if_true', if_false', if_not_true', if_not_false', getD_0, getD_1, getD_2, getD_3]
    have x4h : Ext h nx h4 (nx2 + 8) := x3h.trans x4
    have e24 := (x4.2 (nx + 1) (by omega)).trans e23
    cases hbr : sc.broken with
    | true =>
      rw [show getL s i = (12, []) by simp only [getL, hlast, hsc, hbr, if_true]]
      rw [if_true', st_all e24 (by simp) (by simp) (by simp [allOne, AV.one])]
      simp only [bind_some', asI_int, asB_bool, asStr_str, asP_ptr, asSl_sl, asAgg_1, asAgg_2, asAgg_3, asAgg_4, asTup_0, asTup_2, asTup_3, asTup_4, if_true', if_false', if_not_true', if_not_false', getD_0, getD_1, getD_2, getD_3]
      rw [ldr_all (put_same h4 (nx + 1) _) (by simp)]
      simp only [bind_some', asI_int, asB_bool, asStr_str, asP_ptr, asSl_sl, asAgg_1, asAgg_2, asAgg_3, asAgg_4, asTup_0, asTup_2, asTup_3, asTup_4, if_true', if_false', if_not_true', if_not_false', getD_0, getD_1, getD_2, getD_3]
      exact ⟨_, _, _, rfl, ⟨by omega, fun j hj => (put_ne (by omega)).trans (x4h.2 j hj)⟩, none, false, rfl, ⟨by simp, fun j hj => by simp at hj⟩, Av.none⟩
    | false =>
      rw [show getL s i = (0, sc.data.getD (noughts 128)) by simp only [getL, hlast, hsc, hbr]; rw [if_neg (by simp)]]
      rw [if_false', ld_at e4 (v := .slice va vn vc) rfl]
      simp only [bind_some', asI_int, asB_bool, asStr_str, asP_ptr, asSl_sl, asAgg_1, asAgg_2, asAgg_3, asAgg_4, asTup_0, asTup_2, asTup_3, asTup_4, if_true', if_false', if_not_true', if_not_false', getD_0, getD_1, getD_2, getD_3]
      rcases hv with ⟨d1, d2⟩ | ⟨bs, d1, d2, d3⟩
      · rw [d1]
        simp only [AV.slice.injEq] at d2
        obtain ⟨rfl, rfl, rfl⟩ := d2
        rw [if_pos (by simp), if_pos (by decide)]
        have e5 : (h4.put (nx2 + 16) (some ⟨madeA [.int .u8 0] (Int.toNat 128 * 1), 1, true⟩)) (nx + 1) = _ := (put_ne (by omega)).trans e24
        rw [st_all e5 (by simp) (by simp) (by simp [allOne, AV.one])]
        rw [ldr_all (put_same _ (nx + 1) _) (by simp)]
        simp only [bind_some', asI_int, asB_bool, asStr_str, asP_ptr, asSl_sl, asAgg_1, asAgg_2, asAgg_3, asAgg_4, asTup_0, asTup_2, asTup_3, asTup_4, if_true', if_false', if_not_true', if_not_false', getD_0, getD_1, getD_2, getD_3]
        refine ⟨_, _, _, rfl, ⟨by omega, fun j hj => ?_⟩, some (nx2 + 16, 0), true, rfl, ⟨by simp [noughts, ints], fun j hj => ⟨(nx2 + 16, 0), ⟨madeA [.int .u8 0] (Int.toNat 128 * 1), 1, true⟩, rfl, by omega, ?_, rfl, ?_, ?_⟩⟩, fun _ p hp hq => ?_⟩
        · rw [put_ne (by omega), put_ne (by omega), x4h.2 j hj]
        · rw [put_ne (by omega), put_same]
        · simp [madeA, noughts]
        · intro u hu
          simp only [Nat.zero_add]
          congr 1
        · obtain rfl := Option.some.inj hp
          omega
      · rw [d1]
        obtain ⟨q, c4, d4, d5⟩ := byt_some d3 128 d2 (by omega)
        simp only [AV.slice.injEq] at d4
        obtain ⟨rfl, rfl, rfl⟩ := d4
        rw [if_neg (by simp), ld_at e4 (v := .slice (some q) 128 vc) rfl]
        simp only [bind_some', asI_int, asB_bool, asStr_str, asP_ptr, asSl_sl, asAgg_1, asAgg_2, asAgg_3, asAgg_4, asTup_0, asTup_2, asTup_3, asTup_4, if_true', if_false', if_not_true', if_not_false', getD_0, getD_1, getD_2, getD_3]
        obtain ⟨a', c', h5, nx5, k3, k4, k5⟩ := clone_spec (f := g + 1) (by omega) Y (h := h4) (nx := nx2 + 21) (nxs := nx2 + 8) vc (d5.ext x4h) (by omega) (by omega)
        rw [k3]
        simp only [bind_some', asI_int, asB_bool, asStr_str, asP_ptr, asSl_sl, asAgg_1, asAgg_2, asAgg_3, asAgg_4, asTup_0, asTup_2, asTup_3, asTup_4, if_true', if_false', if_not_true', if_not_false', getD_0, getD_1, getD_2, getD_3]
        have x5 := k4.1
        have e25 := (k4.2 (nx + 1) (by omega)).trans e24
        rw [st_all e25 (by simp) (by simp) (by simp [allOne, AV.one])]
        rw [ldr_all (put_same _ (nx + 1) _) (by simp)]
        simp only [bind_some', asI_int, asB_bool, asStr_str, asP_ptr, asSl_sl, asAgg_1, asAgg_2, asAgg_3, asAgg_4, asTup_0, asTup_2, asTup_3, asTup_4, if_true', if_false', if_not_true', if_not_false', getD_0, getD_1, getD_2, getD_3]
        have av : Av (fun i => i < nx) a' 128 := k5.av fun i i1 _ a => by omega
        have ks := k5.sl
        have fr5 : Frm (fun i => i = nx + 1) h5 nx5 (h5.put (nx + 1) (some ⟨[.int .i64 0, .slice a' 128 c'], 2, true⟩)) nx5 := (Frm.refl _ h5 nx5).put (.inl rfl) (Nat.le_refl _)
        have av2 : Av (fun i => i = nx + 1) a' 128 := k5.av fun i i1 _ a => by omega
        refine ⟨_, _, _, rfl, ⟨by omega, fun j hj => ?_⟩, a', c', by rw [Option.getD_some, d2], by rw [Option.getD_some, d2]; exact ks.fr av2 fr5, by rw [Option.getD_some, d2]; exact av⟩
        rw [put_ne (by omega), k4.2 j (by omega), x4h.2 j hj]

end Go.Proofs.Ytbekpkapkaifiaa.T
