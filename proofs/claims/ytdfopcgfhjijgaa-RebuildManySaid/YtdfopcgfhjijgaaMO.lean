import Derived.Test.YtdfopcgfhjijgaaGT
import Derived.Test.YtdfopcgfhjijgaaMT
set_option linter.unusedVariables false
set_option linter.unusedSimpArgs false
namespace Go.Proofs.Ytdfopcgfhjijgaa.T
open Go Go.RowKit Go.Proofs

def Small (l : List Nat) : Prop := ∀ x ∈ l, x < 256
def SmallM (M : List (List Nat)) : Prop := ∀ r ∈ M, Small r

theorem Sl.ofBlk {h : AHeap} {nx id es n : Nat} {own : Bool} {vs : List AV} (hb : h id = some ⟨vs, es, own⟩) (hl : vs.length = n * es) (hlt : id < nx) : Sl h nx (some (id, 0)) n es vs :=
  ⟨hl, fun j hj => ⟨(id, 0), _, rfl, hlt, hb, rfl, by simp [hl], fun q hq => by simp⟩⟩

theorem mo_index (i c kk n : Nat) (hi : i < 8) (hc : c ≤ 8) (hk : kk < 8) (hpos : 0 < n) : ∃ z : Nat, wrapA .i64 (wrapA .i64 ((i : Int) * (c : Int)) + (kk : Int)) = (z : Int) ∧ Int.tmod (z : Int) ((n : Nat) : Int) = ((z % n : Nat) : Int) ∧ Int.tdiv (z : Int) ((n : Nat) : Int) = ((z / n : Nat) : Int) ∧ wrapA .i64 (1 + wrapA .i64 ((z / n : Nat) : Int)) = ((1 + z / n : Nat) : Int) := by
  have hib : (i : Int) * (c : Int) ≤ 64 ∧ 0 ≤ (i : Int) * (c : Int) := ⟨Int.le_trans (Int.mul_le_mul (show (i : Int) ≤ 8 by omega) (show (c : Int) ≤ 8 by omega) (by omega) (by omega)) (by decide), Int.mul_nonneg (by omega) (by omega)⟩
  obtain ⟨z, hz⟩ : ∃ z : Nat, (i : Int) * (c : Int) + (kk : Int) = (z : Int) := ⟨((i : Int) * (c : Int) + (kk : Int)).toNat, by omega⟩
  have hzb : z ≤ 100 := by omega
  have hdl : z / n ≤ z := Nat.div_le_self _ _
  refine ⟨z, ?_, ?_, ?_, ?_⟩
  · rw [wA (x := (i : Int) * (c : Int)) (by omega) (by omega), wA (by omega) (by omega), hz]
  · rw [Int.tmod_eq_emod_of_nonneg (by omega)]; omega
  · rw [Int.tdiv_eq_ediv_of_nonneg (by omega)]; omega
  · generalize z / n = q at hdl ⊢; rw [wA (x := ((q : Nat) : Int)) (by omega) (by omega), wA (by omega) (by omega)]; omega

theorem mo_inner {k0 : Nat} (hk0 : 2 ≤ k0) (lf n0 : Nat) (l : List Int) (hl : l.length ≤ 1000000000000000) {a0 : Option (Nat × Nat)} (c0 : Bool) {h00 : AHeap} {n00 : Nat} (hs : Sl h00 n00 a0 l.length 1 (ints .i64 l)) (rows : Int) (c : Nat) (hc : 1 ≤ c) (hc' : c ≤ 8) (i : Nat) (hi : i < 8) {oa : Option (Nat × Nat)} (oc : Bool) {M : List (List Nat)} (hM : M.length ≤ 8)
    {hO : AHeap} {nO : Nat} (om : OwnMat hO n00 nO .i64 oa M c) (xO : Ext h00 n00 hO nO) (m : Nat) :
    ∀ (f kk : Nat) (row : List Nat) (ra : Option (Nat × Nat)) (rc : Bool) (h : AHeap) (nx : Nat), kk + m = c → m < f → row.length = kk → Small row → Ext hO nO h nx → OwnSl h nO nx ra kk 1 (ints .i64 (nints row)) →
    ∃ (row' : List Nat) (ea : Option (Nat × Nat)) (ec : Bool) (h' : AHeap) (nx' : Nat), F23_L2 (callP Try.prog keepT k0) Y0 lf n0 f a0 l.length c0 rows (c : Int) oa M.length oc (i : Int) ra kk rc (kk : Int) h nx = F23_L1 (callP Try.prog keepT k0) Y0 lf n0 a0 l.length c0 rows (c : Int) ea (M.length + 1) ec ((i + 1 : Nat) : Int) h' nx' ∧
      row'.length = c ∧ Small row' ∧ OwnMat h' n00 nx' .i64 ea (M ++ [row']) c ∧ Ext h00 n00 h' nx' := by
  induction m with
  | zero =>
    intro f kk row ra rc h nx e hf hrl hsm hx ho
    obtain ⟨f, rfl⟩ : ∃ m, f = m + 1 := ⟨f - 1, by omega⟩
    obtain rfl : kk = c := by omega
    rcases ho.2 with ⟨_, hz⟩ | ⟨ri, hri, hr0, hr1, hrb⟩
    · omega
    subst hri
    have x1 := hx.1
    have x0 := xO.1
    obtain ⟨e, f1, f2, f3, f4⟩ := (om.ext hx).push (c := oc) (rc := rc) (bytes := 24) (id := nx + 5) (id2 := nx + 6) (ri := ri) (r := row) hc hrl (by omega) hr1 hrb (growOk_of (by omega) (by omega)) (by omega) (by omega) (by omega)
    rw [F23_L2_eq, if_neg (by simp)]
    dsimp only
    rw [src_lit1, bind_some', f1, bind_some', f2, wsucc (by omega)]
    exact ⟨row, e.a, e.c, _, _, rfl, hrl, hsm, f3.ext ⟨by omega, fun _ _ => rfl⟩, ((xO.trans (hx)).then f4).le (by omega)⟩
  | succ m ih =>
    intro f kk row ra rc h nx e hf hrl hsm hx ho
    obtain ⟨f, rfl⟩ : ∃ m, f = m + 1 := ⟨f - 1, by omega⟩
    have hkc : kk < c := by omega
    have he : kk + 1 + m = c := by omega
    have hmf : m < f := by omega
    have next : ∀ (y : Nat) (hh : AHeap) (nn : Nat), y < 256 → hh = h → nx ≤ nn → ∃ (row' : List Nat) (ea : Option (Nat × Nat)) (ec : Bool) (h' : AHeap) (nx' : Nat), F23_J3 (callP Try.prog keepT k0) Y0 lf n0 f a0 l.length c0 rows (c : Int) oa M.length oc (i : Int) ra kk rc (kk : Int) (y : Int) hh nn = F23_L1 (callP Try.prog keepT k0) Y0 lf n0 a0 l.length c0 rows (c : Int) ea (M.length + 1) ec ((i + 1 : Nat) : Int) h' nx' ∧
        row'.length = c ∧ Small row' ∧ OwnMat h' n00 nx' .i64 ea (M ++ [row']) c ∧ Ext h00 n00 h' nx' := by
      intro y hh nn hy hhe hnn
      subst hhe
      obtain ⟨e, f1, f2, f3, f4⟩ := (ho.le hnn).push (c := rc) (bytes := 8) (id := nn + 2) (id2 := nn + 3) (ws := [.int .i64 (y : Int)]) rfl (growOk_of (by omega) (by omega)) (by have := hx.1; omega) (by omega) (by omega)
      rw [F23_J3_eq]
      dsimp only
      rw [src_lit1, bind_some', f1, bind_some', f2, wsucc (by omega)]
      refine ih f (kk + 1) (row ++ [y]) e.a e.c _ _ he hmf (by simp [hrl]) ?_ ((hx.then f4).le (by omega)) ?_
      · intro z hz
        rcases List.mem_append.1 hz with q | q
        · exact hsm z q
        · simp at q; omega
      · have : ints .i64 (nints row) ++ [.int .i64 (y : Int)] = ints .i64 (nints (row ++ [y])) := by simp [ints, nints]
        rw [this] at f3
        exact f3.le (by omega)
    rw [F23_L2_eq, if_pos (by simpa using hkc)]
    by_cases hl0 : l.length = 0
    · rw [if_neg (by simp [hl0])]
      exact next 0 h (nx + 7) (by omega) rfl (by omega)
    · have hpos : 0 < l.length := by omega
      obtain ⟨z, wz, wm, wd, wd2⟩ := mo_index i c kk l.length (by omega) (by omega) (by omega) hpos
      have hmod : z % l.length < l.length := Nat.mod_lt _ hpos
      have hne : ¬ ((l.length : Nat) : Int) = 0 := by clear wz wm wd wd2; omega
      have hne2 : ¬ ((1 + z / l.length : Nat) : Int) = 0 := by clear wz wm wd wd2; generalize z / l.length = q; omega
      rw [if_pos (by simpa using hpos), if_neg hne, wz, wm, wd, ((hs.ext xO).ext hx).readI hmod]
      simp only [bind_some', asI_int, asB_bool, asStr_str, asP_ptr, asSl_sl, asAgg_1, asAgg_2, asAgg_3, asAgg_4, asTup_0, asTup_2, asTup_3, asTup_4, if_true', if_false', if_not_true', if_not_false', getD_0, getD_1, getD_2, getD_3]
      rw [if_neg hne, wd2, if_neg hne2]
      clear wz wm wd wd2
      generalize wrapA .i64 (Int.tdiv l[z % l.length] ((1 + z / l.length : Nat) : Int)) = v
      obtain ⟨n1, e1, l1⟩ := picked_spec (k := k0) (by omega) v 256 h (nx + 30) (by omega) (by omega)
      rw [e1]
      simp only [bind_some', asI_int, asB_bool, asStr_str, asP_ptr, asSl_sl, asAgg_1, asAgg_2, asAgg_3, asAgg_4, asTup_0, asTup_2, asTup_3, asTup_4, if_true', if_false', if_not_true', if_not_false', getD_0, getD_1, getD_2, getD_3]
      have q0 := Int.emod_nonneg v (show (256 : Int) ≠ 0 by omega)
      have q1 := Int.emod_lt_of_pos v (show (0 : Int) < 256 by omega)
      obtain ⟨y, hy⟩ : ∃ y : Nat, v % 256 = (y : Int) := ⟨(v % 256).toNat, by omega⟩
      rw [hy]
      exact next y h n1 (by omega) rfl (by omega)

theorem mo_outer {k0 : Nat} (hk0 : 2 ≤ k0) (lf : Nat) (hlf : 10 ≤ lf) (l : List Int) (hl : l.length ≤ 1000000000000000) {a0 : Option (Nat × Nat)} (c0 : Bool) {h00 : AHeap} {n00 : Nat} (hs : Sl h00 n00 a0 l.length 1 (ints .i64 l)) (r c : Nat) (hr : r ≤ 8) (hc : 1 ≤ c) (hc' : c ≤ 8) (m : Nat) :
    ∀ (f i : Nat) (M : List (List Nat)) (oa : Option (Nat × Nat)) (oc : Bool) (h : AHeap) (nx : Nat), i + m = r → m < f → M.length = i → SmallM M → (∀ q ∈ M, q.length = c) → Ext h00 n00 h nx → OwnMat h n00 nx .i64 oa M c →
    ∃ (M' : List (List Nat)) (oa' : Option (Nat × Nat)) (oc' : Bool) (h' : AHeap) (nx' : Nat), F23_L1 (callP Try.prog keepT k0) Y0 lf f a0 l.length c0 (r : Int) (c : Int) oa M.length oc (i : Int) h nx = some (.slice oa' M'.length oc', h', nx') ∧ M'.length = r ∧ SmallM M' ∧ (∀ q ∈ M', q.length = c) ∧ OwnMat h' n00 nx' .i64 oa' M' c ∧ Ext h00 n00 h' nx' := by
  induction m with
  | zero =>
    intro f i M oa oc h nx e hf hM hsm hq hx om
    obtain ⟨f, rfl⟩ : ∃ m, f = m + 1 := ⟨f - 1, by omega⟩
    obtain rfl : i = r := by omega
    rw [F23_L1_eq, if_neg (by simp)]
    exact ⟨M, oa, oc, h, _, rfl, hM, hsm, hq, om.ext ⟨by omega, fun _ _ => rfl⟩, hx.le (by omega)⟩
  | succ m ih =>
    intro f i M oa oc h nx e hf hM hsm hq hx om
    obtain ⟨f, rfl⟩ : ∃ m, f = m + 1 := ⟨f - 1, by omega⟩
    have hi : i < r := by omega
    rw [F23_L1_eq, if_pos (by simpa using hi)]
    obtain ⟨row, ea, ec, h', nx', e1, r1, r2, r3, r4⟩ := mo_inner hk0 lf f l hl c0 hs (r : Int) c hc hc' i (by omega) oc (by omega) om hx c lf 0 [] none false h (nx + 5) (by omega) (by omega) rfl (fun x hx => by cases hx) ⟨by omega, fun _ _ => rfl⟩ (OwnSl.nil _ _ _ _)
    rw [show ((0 : Nat) : Int) = 0 from rfl] at e1
    rw [e1]
    have := ih f (i + 1) (M ++ [row]) ea ec h' nx' (by omega) (by omega) (by simp [hM]) (fun q hq' => by
      rcases List.mem_append.1 hq' with z | z
      · exact hsm q z
      · simp at z; subst z; exact r2) (fun q hq' => by
      rcases List.mem_append.1 hq' with z | z
      · exact hq q z
      · simp at z; subst z; exact r1) r4 r3
    rwa [List.length_append, List.length_cons, List.length_nil] at this

theorem mo_spec {k : Nat} (hk : 20 ≤ k) (l : List Int) (hl : l.length ≤ 1000000000000000) {a0 : Option (Nat × Nat)} (c0 : Bool) {h : AHeap} {nx : Nat} (hs : Sl h nx a0 l.length 1 (ints .i64 l)) (r c : Nat) (hr : r ≤ 8) (hc : 1 ≤ c) (hc' : c ≤ 8) :
    ∃ (M : List (List Nat)) (oa : Option (Nat × Nat)) (oc : Bool) (h' : AHeap) (nx' : Nat), callP Try.prog keepT k Y0 23 [.slice a0 l.length c0, .int .i64 (r : Int), .int .i64 (c : Int)] h nx = some (.slice oa M.length oc, h', nx') ∧ M.length = r ∧ SmallM M ∧ (∀ q ∈ M, q.length = c) ∧ Mat h' nx' .i64 oa M c ∧ Ext h nx h' nx' := by
  obtain ⟨k, rfl⟩ : ∃ m, k = m + 1 := ⟨k - 1, by omega⟩
  obtain ⟨M, oa, oc, h', nx', e, a1, a2, a3, a4, a5⟩ := mo_outer (k0 := k) (by omega) k (by omega) l hl c0 hs r c hr hc hc' r k 0 [] none false h (nx + 3) (by omega) (by omega) rfl (fun x hx => by cases hx) (fun x hx => by cases hx) ⟨by omega, fun _ _ => rfl⟩ (OwnMat.nil _ _ _ _ _)
  rw [F23_eq]
  exact ⟨M, oa, oc, h', nx', e, a1, a2, a3, a4.mat, a5⟩

end Go.Proofs.Ytdfopcgfhjijgaa.T
