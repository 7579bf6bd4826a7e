/- Drives: jobs out of acts; what a drive holds after jobs. -/
import Derived.Test.YtbekpkapkaifiaaD6
set_option linter.unusedVariables false
set_option linter.unusedSimpArgs false
namespace Go.Proofs.Ytbekpkapkaifiaa.T
open Go Go.RowKit Go.Proofs

structure Act where
  k : Int
  w : Int
  u : Int
  v : Int
def Act.row (a : Act) : List AV := [.int .i64 a.k, .int .i64 a.w, .int .i64 a.u, .int .i64 a.v]
def actL (ks : List Int) (a : Act) : Job :=
  let q := ks.getD (pickL a.k ks.length).toNat 0
  ⟨q, pickL a.w 8, if q = 4 then a.v else 0, if q = 1 ∨ q = 6 then secL a.u else []⟩
def actsL (ks : List Int) (m : Nat) (l : List Act) : List Job := (l.take m).map (actL ks)

theorem rows4 (l : List Act) : ∀ r ∈ l.map Act.row, r.length = 4 := fun r hr => by
  obtain ⟨a, _, rfl⟩ := List.mem_map.1 hr; rfl

theorem acts_loop {f : Nat} (hf : 200 ≤ f) {Y : YldF} {h0 : AHeap} {n0 kb : Nat} {xa : Option (Nat × Nat)} {xc kc : Bool} {l : List Act} {ks : List Int} {m : Nat} (sl : Sl h0 n0 xa l.length 4 (l.map Act.row).flatten) (hk : h0 kb = some ⟨ints .i64 ks, 1, true⟩) (kn : kb < n0) (k0 : 0 < ks.length) (k1 : ks.length ≤ 100) (hl : l.length ≤ 10000000000000) (hm : m ≤ 100) (d : Nat) :
    ∀ (lf k : Nat) (oc : Bool) (A : Nat → Prop) (oa : Option (Nat × Nat)) (h : AHeap) (nx : Nat), k + d = min l.length m → d < lf → Ext h0 n0 h nx → Jobs h nx A oa (actsL ks k l) → (∀ i, A i → i < nx) → (∀ i, i < n0 → A i) → (∀ i, ownOf oa i → n0 ≤ i) →
      ∃ a c h' nx' A', F18_L1 (callP Try.prog keepT f) Y f lf xa l.length xc (m : Int) (some (kb, 0)) ks.length kc oa (actsL ks k l).length oc (k : Int) h nx = some (.slice a (actsL ks m l).length c, h', nx') ∧ Ext h0 n0 h' nx' ∧ Jobs h' nx' A' a (actsL ks m l) ∧ (∀ i, A' i → i < nx') ∧ (∀ i, i < n0 → A' i) ∧ (∀ i, ownOf a i → n0 ≤ i) := by
  induction d with
  | zero =>
    intro lf k oc A oa h nx e hlf x w hA hA0 hO
    obtain ⟨lf, rfl⟩ : ∃ m, lf = m + 1 := ⟨lf - 1, by omega⟩
    have ek : actsL ks k l = actsL ks m l := by unfold actsL; congr 1; rw [List.take_eq_take_iff]; omega
    rw [← ek]
    have x' : Ext h0 n0 h (nx + 11) := ⟨by have := x.1; omega, x.2⟩
    have w' : Jobs h (nx + 11) A oa (actsL ks k l) := w.ext ⟨by omega, fun _ _ => rfl⟩
    rw [F18_L1_eq]
    by_cases c : k < l.length
    · rw [if_pos (decide_eq_true (by omega)), if_neg (by rw [decide_eq_true_eq]; omega)]
      exact ⟨_, _, _, _, A, rfl, x', w', (fun i q => by have := hA i q; omega), hA0, hO⟩
    · rw [if_neg (by rw [decide_eq_true_eq]; omega)]
      exact ⟨_, _, _, _, A, rfl, x', w', (fun i q => by have := hA i q; omega), hA0, hO⟩
  | succ d ih =>
    intro lf k oc A oa h nx e hlf x w hA hA0 hO
    obtain ⟨lf, rfl⟩ : ∃ m, lf = m + 1 := ⟨lf - 1, by omega⟩
    have hkl : k < l.length := by omega
    have lx := x.1
    obtain ⟨p, blk, rfl, hp, eb0, _, hle, hq⟩ := sl.2 k hkl
    have eb := (x.2 _ hp).trans eb0
    have ekb := (x.2 _ kn).trans hk
    obtain ⟨bc, bes, bow⟩ := blk
    have hrow : (l.map Act.row)[k]? = some l[k].row := by simp [hkl]
    have hflat := flat_len (rows4 l)
    have cell : ∀ (fl : Nat) (v : AV), fl < 4 → l[k].row[fl]? = some v → bc[p.2 + (k * 4 + fl)]? = some v := fun fl v h1 h2 => by
      rw [hq _ (by omega), flat_get (rows4 l) hrow h1, h2]
    have hact : actsL ks (k + 1) l = actsL ks k l ++ [actL ks l[k]] := by
      unfold actsL; rw [List.take_add_one, List.getElem?_eq_getElem hkl, List.map_append]; rfl
    have hlen : (actsL ks k l).length = k := by simp [actsL]; omega
    generalize l[k] = act at *
    have P1 := pickL_in (x := act.k) (n := (ks.length : Int)) (by omega)
    have P2 := pickL_in (x := act.w) (n := 8) (by omega)
    rw [F18_L1_eq, if_pos (decide_eq_true (by omega)), if_pos (decide_eq_true (by omega)), F18_J2_eq]
    simp only [bind_some', asI_int, asB_bool, asStr_str, asP_ptr, asSl_sl, asAgg_1, asAgg_2, asAgg_3, asAgg_4, asTup_0, asTup_2, asTup_3, asTup_4, if_true', if_false', if_not_true', if_not_false', getD_0, getD_1, getD_2, getD_3]
    rw [if_pos ⟨by omega, by omega⟩, Int.toNat_natCast, ld_at eb (v := .int .i64 act.k) (by simpa using cell 0 _ (by omega) rfl)]
    simp only [bind_some', asI_int, asB_bool, asStr_str, asP_ptr, asSl_sl, asAgg_1, asAgg_2, asAgg_3, asAgg_4, asTup_0, asTup_2, asTup_3, asTup_4, if_true', if_false', if_not_true', if_not_false', getD_0, getD_1, getD_2, getD_3]
    rw [picked_spec (f := f) (by omega) Y act.k (ks.length : Int) (by omega) (by omega)]
    simp only [bind_some', asI_int, asB_bool, asStr_str, asP_ptr, asSl_sl, asAgg_1, asAgg_2, asAgg_3, asAgg_4, asTup_0, asTup_2, asTup_3, asTup_4, if_true', if_false', if_not_true', if_not_false', getD_0, getD_1, getD_2, getD_3]
    obtain ⟨q, hq2⟩ : ∃ q : Nat, pickL act.k (ks.length : Int) = (q : Int) := ⟨(pickL act.k (ks.length : Int)).toNat, by omega⟩
    have hqk : q < ks.length := by omega
    rw [if_pos ⟨by omega, by omega⟩, hq2, Int.toNat_natCast, ld_at ekb (v := .int .i64 ks[q]) (by simp [ints, hqk])]
    simp only [bind_some', asI_int, asB_bool, asStr_str, asP_ptr, asSl_sl, asAgg_1, asAgg_2, asAgg_3, asAgg_4, asTup_0, asTup_2, asTup_3, asTup_4, if_true', if_false', if_not_true', if_not_false', getD_0, getD_1, getD_2, getD_3]
    rw [if_pos ⟨by omega, by omega⟩, ld_at eb (v := .int .i64 act.w) (by simpa [Nat.add_assoc] using cell 1 _ (by omega) rfl)]
    simp only [bind_some', asI_int, asB_bool, asStr_str, asP_ptr, asSl_sl, asAgg_1, asAgg_2, asAgg_3, asAgg_4, asTup_0, asTup_2, asTup_3, asTup_4, if_true', if_false', if_not_true', if_not_false', getD_0, getD_1, getD_2, getD_3]
    rw [picked_spec (f := f) (by omega) Y act.w 8 (by omega) (by omega)]
    simp only [bind_some', asI_int, asB_bool, asStr_str, asP_ptr, asSl_sl, asAgg_1, asAgg_2, asAgg_3, asAgg_4, asTup_0, asTup_2, asTup_3, asTup_4, if_true', if_false', if_not_true', if_not_false', getD_0, getD_1, getD_2, getD_3]
    obtain ⟨jb, hjb⟩ : ∃ jb, jb = nx + 9 + 18 := ⟨_, rfl⟩
    rw [← hjb, st_all (put_same h jb _) (by simp) (by simp) (by simp [allOne, AV.one]), put_put]
    have aA : AllApart [([jb], [p.1]), ([jb], [kb]), ([jb], [p.1])] := by
      refine ⟨?_, ?_, ?_, trivial⟩ <;> intro q hq hq2 <;> simp only [List.mem_singleton] at hq hq2 <;> omega
    have aK : AllKept [(h, h, [p.1]), (h, h, [kb])] := ⟨fun _ _ => rfl, fun _ _ => rfl, trivial⟩
    rw [ifApart_pos aA, ifKept_pos aK, ifRob_pos (by exact ⟨fun ss _ => by simp only [callC_fn]; rw [picked_spec (f := f) (by omega) Y act.k (ks.length : Int) (by omega) (by omega), hq2], fun ss _ => by simp only [callC_fn]; rw [picked_spec (f := f) (by omega) Y act.w 8 (by omega) (by omega)], trivial⟩)]
    have hks : ks.getD q 0 = ks[q] := by rw [List.getD_eq_getElem?_getD, List.getElem?_eq_getElem hqk]; rfl
    have hj : actL ks act = ⟨ks[q], pickL act.w 8, if ks[q] = 4 then act.v else 0, if ks[q] = 1 ∨ ks[q] = 6 then secL act.u else []⟩ := by
      unfold actL; rw [hq2, Int.toNat_natCast, hks]
    have e1 := put_same h jb (some ⟨[.int .i64 ks[q], .int .i64 (pickL act.w 8), .int .i64 0, .slice none 0 false], 4, true⟩)
    have x1 : Ext h nx (h.put jb (some ⟨[.int .i64 ks[q], .int .i64 (pickL act.w 8), .int .i64 0, .slice none 0 false], 4, true⟩)) (jb + 1) := ⟨by omega, fun i hi => put_ne (by omega)⟩
    generalize h.put jb (some ⟨[.int .i64 ks[q], .int .i64 (pickL act.w 8), .int .i64 0, .slice none 0 false], 4, true⟩) = h1 at *
    have eb1 := (x1.2 p.1 (by omega)).trans eb
    generalize hc0 : nx + 9 + 20 + pickK act.k (ks.length : Int) + pickK act.w 8 = c0
    rw [ld_at e1 (v := .int .i64 ks[q]) rfl]
    simp only [bind_some', asI_int, asB_bool, asStr_str, asP_ptr, asSl_sl, asAgg_1, asAgg_2, asAgg_3, asAgg_4, asTup_0, asTup_2, asTup_3, asTup_4, if_true', if_false', if_not_true', if_not_false', getD_0, getD_1, getD_2, getD_3]
    have tail : ∀ (h2 : AHeap) (n2 : Nat) (sa : Option (Nat × Nat)) (sn : Nat) (sc : Bool), Ext h nx h2 n2 → jb < n2 → h2 jb = some ⟨[.int .i64 (actL ks act).kind, .int .i64 (actL ks act).at_, .int .i64 (actL ks act).keep, .slice sa sn sc], 4, true⟩ → Byt .u8 h2 n2 (fun i => i < nx) (.slice sa sn sc) (actL ks act).data →
        ∃ a c h' nx' A', F18_J3 (callP Try.prog keepT f) Y f lf (some p) l.length xc (m : Int) (some (kb, 0)) ks.length kc oa (actsL ks k l).length oc (k : Int) (some (jb, 0)) h2 n2 = some (.slice a (actsL ks m l).length c, h', nx') ∧ Ext h0 n0 h' nx' ∧ Jobs h' nx' A' a (actsL ks m l) ∧ (∀ i, A' i → i < nx') ∧ (∀ i, i < n0 → A' i) ∧ (∀ i, ownOf a i → n0 ≤ i) := by
      intro h2 n2 sa sn sc x2 jn e2 b2
      have l2 := x2.1
      rw [F18_J3_eq]
      simp only [bind_some', asI_int, asB_bool, asStr_str, asP_ptr, asSl_sl, asAgg_1, asAgg_2, asAgg_3, asAgg_4, asTup_0, asTup_2, asTup_3, asTup_4, if_true', if_false', if_not_true', if_not_false', getD_0, getD_1, getD_2, getD_3]
      rw [ldr_all e2 (by simp)]
      simp only [bind_some', asI_int, asB_bool, asStr_str, asP_ptr, asSl_sl, asAgg_1, asAgg_2, asAgg_3, asAgg_4, asTup_0, asTup_2, asTup_3, asTup_4, if_true', if_false', if_not_true', if_not_false', getD_0, getD_1, getD_2, getD_3]
      have x3 : Ext h2 n2 (h2.put (n2 + 2) (some ⟨[.int .i64 (actL ks act).kind, .int .i64 (actL ks act).at_, .int .i64 (actL ks act).keep, .slice sa sn sc], 4, true⟩)) (n2 + 3) := ⟨by omega, fun i hi => put_ne (by omega)⟩
      have hsrc := src_lit (h := h2) (id := n2 + 2) (es := 4) (ws := [.int .i64 (actL ks act).kind, .int .i64 (actL ks act).at_, .int .i64 (actL ks act).keep, .slice sa sn sc]) rfl
      generalize h2.put (n2 + 2) (some ⟨[.int .i64 (actL ks act).kind, .int .i64 (actL ks act).at_, .int .i64 (actL ks act).keep, .slice sa sn sc], 4, true⟩) = h3 at *
      rw [hsrc]
      simp only [bind_some', asI_int, asB_bool, asStr_str, asP_ptr, asSl_sl, asAgg_1, asAgg_2, asAgg_3, asAgg_4, asTup_0, asTup_2, asTup_3, asTup_4, if_true', if_false', if_not_true', if_not_false', getD_0, getD_1, getD_2, getD_3]
      have w3 : Jobs h3 (n2 + 3) A oa (actsL ks k l) := (w.ext x2).ext x3
      have jr : JobR h3 (n2 + 3) A (actL ks act) [.int .i64 (actL ks act).kind, .int .i64 (actL ks act).at_, .int .i64 (actL ks act).keep, .slice sa sn sc] := ⟨_, rfl, b2.go (x3.fr fun _ => False) (fun _ _ q => q.elim) (fun i _ q => hA i q)⟩
      obtain ⟨e, p1, p2, p3, p4, p5⟩ := w3.app2 oc (bytes := 48) (id := n2 + 3) (l2 := [actL ks act]) (All2.one jr) (fun r hr => by simp at hr; subst hr; rfl) [n2 + 2] (growOk_of (by simp only [List.length_singleton]; omega) (by omega)) (fun q => by have := hA _ (w.2 _ q); omega) (fun q => by omega) (m := n2 + 4) (by omega) (by omega)
      simp only [List.length_singleton, List.flatten_cons, List.flatten_nil, List.append_nil] at p1
      rw [p1]
      simp only [bind_some', asI_int, asB_bool, asStr_str, asP_ptr, asSl_sl, asAgg_1, asAgg_2, asAgg_3, asAgg_4, asTup_0, asTup_2, asTup_3, asTup_4, if_true', if_false', if_not_true', if_not_false', getD_0, getD_1, getD_2, getD_3]
      rw [wsucc (by omega), p2, ← hact]
      rw [← hact] at p3
      have x4 : Ext h0 n0 (h3.puts e.sets) (n2 + 8) := ⟨by omega, fun i hi => by rw [p4.2 i (by omega) (fun q => by rcases q with q | q; have := hO i q; omega; omega), x3.2 i (by omega), x2.2 i (by omega), x.2 i hi]⟩
      exact ih lf (k + 1) e.c _ e.a (h3.puts e.sets) (n2 + 8) (by omega) (by omega) x4 (p3.ext ⟨by omega, fun _ _ => rfl⟩) (fun i q => by rcases q with q | q; have := hA i q; omega; omega) (fun i q => .inl (hA0 i q)) (fun i q => by rcases p5 i q with q | q; exact hO i q; omega)
    have bnil : ∀ h2 n2, Byt .u8 h2 n2 (fun i => i < nx) (.slice none 0 false) [] := fun _ _ => byt_nil
    by_cases c1 : ks[q] = 1
    · rw [if_pos (by simp [c1]), if_pos (by simp [c1]), if_pos ⟨by omega, by omega⟩, ld_at eb1 (v := .int .i64 act.u) (by simpa [Nat.add_assoc] using cell 2 _ (by omega) rfl)]
      simp only [bind_some', asI_int, asB_bool, asStr_str, asP_ptr, asSl_sl, asAgg_1, asAgg_2, asAgg_3, asAgg_4, asTup_0, asTup_2, asTup_3, asTup_4, if_true', if_false', if_not_true', if_not_false', getD_0, getD_1, getD_2, getD_3]
      obtain ⟨b, h2, n2, g1, g2, g3, g4, g5⟩ := sec_spec (f := f) (by omega) Y act.u h1 (c0 + 12)
      rw [g1]
      simp only [bind_some', asI_int, asB_bool, asStr_str, asP_ptr, asSl_sl, asAgg_1, asAgg_2, asAgg_3, asAgg_4, asTup_0, asTup_2, asTup_3, asTup_4, if_true', if_false', if_not_true', if_not_false', getD_0, getD_1, getD_2, getD_3]
      have l2 := g2.1
      have e2 := (g2.2 jb (by omega)).trans e1
      rw [st_to e2 rfl (by simp) (cs' := [.int .i64 ks[q], .int .i64 (pickL act.w 8), .int .i64 0, .slice (some (b, 0)) 128 true]) rfl]
      refine tail _ n2 (some (b, 0)) 128 true ⟨by omega, fun i hi => by rw [put_ne (by omega), g2.2 i (by omega), x1.2 i hi]⟩ (by omega) (by rw [put_same, hj]; simp only [c1]; rfl) ?_
      rw [hj]
      simp only [c1, true_or, if_true]
      have bs : OwnSl (h2.put jb (some ⟨[.int .i64 1, .int .i64 (pickL act.w 8), .int .i64 0, .slice (some (b, 0)) 128 true], 4, true⟩)) (c0 + 12) n2 (some (b, 0)) 128 1 (ints .u8 (secL act.u)) := ⟨by simp [secL_len], .inr ⟨b, rfl, g3, g4, by rw [put_ne (by omega), g5]⟩⟩
      exact ⟨some (b, 0), true, by rw [secL_len], by rw [secL_len]; exact bs.sl, by rw [secL_len]; exact bs.av fun i i1 _ q => by omega⟩
    · rw [if_neg (by simp [c1])]
      by_cases c6 : ks[q] = 6
      · rw [if_pos (by simp [c6]), if_pos ⟨by omega, by omega⟩, ld_at eb1 (v := .int .i64 act.u) (by simpa [Nat.add_assoc] using cell 2 _ (by omega) rfl)]
        simp only [bind_some', asI_int, asB_bool, asStr_str, asP_ptr, asSl_sl, asAgg_1, asAgg_2, asAgg_3, asAgg_4, asTup_0, asTup_2, asTup_3, asTup_4, if_true', if_false', if_not_true', if_not_false', getD_0, getD_1, getD_2, getD_3]
        obtain ⟨b, h2, n2, g1, g2, g3, g4, g5⟩ := sec_spec (f := f) (by omega) Y act.u h1 (c0 + 14)
        rw [g1]
        simp only [bind_some', asI_int, asB_bool, asStr_str, asP_ptr, asSl_sl, asAgg_1, asAgg_2, asAgg_3, asAgg_4, asTup_0, asTup_2, asTup_3, asTup_4, if_true', if_false', if_not_true', if_not_false', getD_0, getD_1, getD_2, getD_3]
        have l2 := g2.1
        have e2 := (g2.2 jb (by omega)).trans e1
        rw [st_to e2 rfl (by simp) (cs' := [.int .i64 ks[q], .int .i64 (pickL act.w 8), .int .i64 0, .slice (some (b, 0)) 128 true]) rfl]
        refine tail _ n2 (some (b, 0)) 128 true ⟨by omega, fun i hi => by rw [put_ne (by omega), g2.2 i (by omega), x1.2 i hi]⟩ (by omega) (by rw [put_same, hj]; simp only [c6]; rfl) ?_
        rw [hj]
        simp only [c6, or_true, if_true]
        have bs : OwnSl (h2.put jb (some ⟨[  .int .i64 6, .int .i64 (pickL act.w 8), .int .i64 0, .slice (some (b, 0)) 128 true], 4, true⟩)) (c0 + 14) n2 (some (b, 0)) 128 1 (ints .u8 (secL act.u)) := ⟨by simp [secL_len], .inr ⟨b, rfl, g3, g4, by rw [put_ne (by omega), g5]⟩⟩
        exact ⟨some (b, 0), true, by rw [secL_len], by rw [secL_len]; exact bs.sl, by rw [secL_len]; exact bs.av fun i i1 _ q => by omega⟩
      · rw [if_neg (by simp [c6])]
        by_cases c4 : ks[q] = 4
        · rw [if_pos (by simp [c4]), if_pos ⟨by omega, by omega⟩, ld_at eb1 (v := .int .i64 act.v) (by simpa [Nat.add_assoc] using cell 3 _ (by omega) rfl)]
          simp only [bind_some', asI_int, asB_bool, asStr_str, asP_ptr, asSl_sl, asAgg_1, asAgg_2, asAgg_3, asAgg_4, asTup_0, asTup_2, asTup_3, asTup_4, if_true', if_false', if_not_true', if_not_false', getD_0, getD_1, getD_2, getD_3]
          rw [st_to e1 rfl (by simp) (cs' := [.int .i64 ks[q], .int .i64 (pickL act.w 8), .int .i64 act.v, .slice none 0 false]) rfl]
          refine tail _ (c0 + 15) none 0 false ⟨by omega, fun i hi => by rw [put_ne (by omega), x1.2 i hi]⟩ (by omega) (by rw [put_same, hj]; simp only [c4]; rfl) ?_
          rw [hj]
          simp only [c4]
          exact byt_nil
        · rw [if_neg (by simp [c4])]
          refine tail _ (c0 + 8) none 0 false ⟨by omega, fun i hi => x1.2 i hi⟩ (by omega) (by rw [e1, hj]; simp only [if_neg c4]) ?_
          rw [hj]
          simp only [c1, c6, or_self, if_false]
          exact byt_nil

theorem acts_spec {f : Nat} (hf : 210 ≤ f) (Y : YldF) {h0 : AHeap} {n0 kb : Nat} {xa : Option (Nat × Nat)} (xc kc : Bool) {l : List Act} {ks : List Int} {m : Nat} (sl : Sl h0 n0 xa l.length 4 (l.map Act.row).flatten) (hk : h0 kb = some ⟨ints .i64 ks, 1, true⟩) (kn : kb < n0) (k0 : 0 < ks.length) (k1 : ks.length ≤ 100) (hl : l.length ≤ 10000000000000) (hm : m ≤ 100) :
    ∃ a c h' nx' A', callP Try.prog keepT f Y 18 [.slice xa l.length xc, .int .i64 (m : Int), .slice (some (kb, 0)) ks.length kc] h0 n0 = some (.slice a (actsL ks m l).length c, h', nx') ∧ Ext h0 n0 h' nx' ∧ Jobs h' nx' A' a (actsL ks m l) ∧ (∀ i, A' i → i < nx') ∧ (∀ i, i < n0 → A' i) ∧ (∀ i, ownOf a i → n0 ≤ i) := by
  obtain ⟨f, rfl⟩ : ∃ m, f = m + 1 := ⟨f - 1, by omega⟩
  rw [F18_eq]
  have h00 : actsL ks 0 l = [] := rfl
  obtain ⟨a, c, h', nx', A', r⟩ := acts_loop (f := f) (by omega) (Y := Y) (xc := xc) (kc := kc) sl hk kn k0 k1 hl hm (min l.length m) f 0 false (fun i => i < n0) none h0 (n0 + 3) (by omega) (by omega) ⟨by omega, fun _ _ => rfl⟩ (by rw [h00]; exact ⟨OwnRows.nil _ _ _ _, fun i q => (no_own q).elim⟩) (fun i q => by omega) (fun i q => q) (fun i q => (no_own q).elim)
  exact ⟨a, c, h', nx', A', r⟩

end Go.Proofs.Ytbekpkapkaifiaa.T
