import Derived.Test.YtalfcokiooaliaaG18
set_option linter.unusedVariables false
set_option linter.unusedSimpArgs false
namespace Go.Proofs.Ytalfcokiooaliaa.T
open Go Go.RowKit Go.Proofs

theorem flatO_small {M : List (List Nat)} (sM : SmallM M) (d p n i : Nat) : Small (flatO M d p n i) := by
  intro x hx
  obtain ⟨r, hr, hxr⟩ := List.mem_flatten.1 hx
  obtain ⟨j, _, rfl⟩ := List.mem_map.1 hr
  have hx2 := List.mem_of_mem_take hxr
  by_cases hj : j < M.length
  · rw [getD_at hj] at hx2; exact sM _ (List.getElem_mem _) x hx2
  · simp [List.getD, List.getElem?_eq_none (by omega : M.length ≤ j)] at hx2

/-- The bytes of a try. -/
def tryB (d p n : Nat) (v : Nat → List Nat) (lost : Nat → Bool) (gs us : List Nat) : List Nat :=
  flatO (solA (gP (colN d p n) p gs) (DaV (colN d p n) p (bw d p n 0) v lost) (colN d p n - p) (bw d p n 0) us us.length) d p n (colN d p n - p)
def UsOk (d p n : Nat) (gs us : List Nat) : Prop :=
  us.length = ((List.range (colN d p n - p)).filter (gP (colN d p n) p gs)).length ∧ us.Pairwise (· < ·) ∧ ∀ u ∈ us, u < p ∧ gP (colN d p n) p gs (colN d p n - p + u) = false
theorem tryB_len {d p n : Nat} (g : Geo d p n) {h : AHeap} {nx : Nat} {v : Nat → List Nat} {lost : Nat → Bool} {P : Nat → Tri} (cl : ColsL h nx (colN d p n) (bw d p n) v lost P) (gs us : List Nat) : (tryB d p n v lost gs us).length = n * 128 := by
  have gp := g.pN
  have hw : ∀ k, k < colN d p n → bw d p n k ≤ bw d p n 0 := fun k hk => bw_le g (by have := g.N8; omega)
  have gA := goodV gp hw cl (gP (colN d p n) p gs)
  unfold tryB
  rw [flatO_len g rfl _ (Nat.le_refl _) fun j hj => ?_, g.sum]
  rw [getD_at (by rw [solA_len]; exact hj)]
  exact solA_row gA (by omega) _ (List.getElem_mem _)
theorem tryB_small {d p n : Nat} (g : Geo d p n) {h : AHeap} {nx : Nat} {v : Nat → List Nat} {lost : Nat → Bool} {P : Nat → Tri} (cl : ColsL h nx (colN d p n) (bw d p n) v lost P) (gs us : List Nat) : Small (tryB d p n v lost gs us) := by
  have gp := g.pN
  have hw : ∀ k, k < colN d p n → bw d p n k ≤ bw d p n 0 := fun k hk => bw_le g (by have := g.N8; omega)
  exact flatO_small (solA_small (goodV gp hw cl (gP (colN d p n) p gs)) (by omega)) _ _ _ _

def pickK (KL q : List Nat) : List Nat := q.map fun x => KL.getD x 0

theorem ints_nl (k : IntKind) (l : List Int) : (ints k l).length = l.length := by simp
theorem pick_all (call : YldF → CallF) (lf L0 rec : Nat) (hlf : 200 ≤ lf) (X9 X10 X11 X12 X13 X14 X15 X17 : Option (Nat × Nat)) {kv kl : Nat} {ka ya : Option (Nat × Nat)} {KL q : List Nat} (hKL : KL.length = kl) (hkl : kl ≤ 100) (hq : ∀ x ∈ q, x < kl) (kc yc : Bool) {ql nb : Nat} (hql : q.length = ql) (hq1 : ql ≤ 100) {h0 : AHeap} {n0 : Nat} (hkv : h0 kv = some ⟨[.slice ka kl kc], 1, true⟩) (hkvl : kv < nb) (sk : Sl h0 nb ka kl 1 (ints .i64 (nints KL))) (hav : ∀ p, ka = some p → p.1 < nb) (hnb : nb ≤ n0)
    (hy : ql = 0 ∨ ∃ yid, ya = some (yid, 0) ∧ nb ≤ yid ∧ yid < n0 ∧ h0 yid = some ⟨ints .i64 (nints q), 1, true⟩) :
    ∃ (f' : Nat) (h' : AHeap) (nx' : Nat), F12_L5 call Y0 lf L0 rec lf X9 X10 X11 X12 X13 X14 X15 X17 (some (kv, 0)) ya ql yc ya ql yc ((ql : Nat) : Int) 0 h0 n0 = F12_L5 call Y0 lf L0 rec (f' + 1) X9 X10 X11 X12 X13 X14 X15 X17 (some (kv, 0)) ya ql yc ya ql yc ((ql : Nat) : Int) (ql : Int) h' nx' ∧ n0 ≤ nx' ∧ (∀ j, j < n0 → (∀ o, ya = some (j, o) → ql = 0) → h' j = h0 j) ∧ Sl h' nx' ya ql 1 (ints .i64 (nints (pickK KL q))) := by
  by_cases h0q : ql = 0
  · subst h0q
    have hq0 : q = [] := List.length_eq_zero_iff.1 hql
    subst hq0
    obtain ⟨f, rfl⟩ : ∃ m, lf = m + 1 := ⟨lf - 1, by omega⟩
    exact ⟨f, h0, n0, rfl, Nat.le_refl _, fun _ _ _ => rfl, by simp [pickK, nints], fun j hj => by omega⟩
  · obtain ⟨yid, rfl, y0, y1, yb⟩ := hy.resolve_left h0q
    obtain ⟨f', h', nx', e', x', b'⟩ := pick_loop call lf L0 rec X9 X10 X11 X12 X13 X14 X15 X17 hKL hkl hq kc yc hql hq1 hkv (by omega : kv < n0) (by omega : kv ≠ yid) (sk.ext ⟨hnb, fun _ _ => rfl⟩) (fun p hp => by have := hav p hp; omega) y1 ql lf 0 h0 n0 (by omega) (by omega) (Frm.refl _ _ _) (by simpa using yb)
    rw [show ((0 : Nat) : Int) = 0 from rfl] at e'
    refine ⟨f', h', nx', e', x'.1, fun j hj hne => x'.2 j hj fun z => ?_, Sl.ofBlk b' (by rw [ints_nl, nints_len, Nat.mul_one]; first | (unfold pickK; rw [List.length_map, hql]) | rw [List.length_map, hql]) (by have := x'.1; omega)⟩
    subst z
    exact h0q (hne 0 rfl)

theorem try_spec {k : Nat} (hk : 5800 ≤ k) (lf L0 rec : Nat) (hlf : 200 ≤ lf) {d p a n : Nat} (g : Geo d p n) (hp : 1 ≤ p) (hp3 : p ≤ 3) (hn32 : n ≤ 32) {m : Nat} (hm1 : 1 ≤ m) (hmn : m ≤ n * 128) {v : Nat → List Nat} {lost : Nat → Bool} {P : Nat → Tri} {xa sa la ka ya : Option (Nat × Nat)} {xc sc lc kc : Bool} (yc : Bool) {s0 s1 s2 s3 : Int} {lv kv nx0 nb nx : Nat} {h : AHeap}
    (S : Scan h nx0 nb d p a n lost m xa xc [.int .i64 s0, .int .i64 s1, .int .i64 s2, .int .i64 s3] sa sc lv kv la ka lc kc) (sp : Sl h nb xa (colN d p n) 2 (prows P lost (colN d p n)).flatten) (cl : ColsL h nb (colN d p n) (bw d p n) v lost P) (hnb : nb ≤ nx)
    {q : List Nat} {ql : Nat} (hql : q.length = ql) (hqk : ∀ x ∈ q, x < (kept lost (colN d p n)).length) (hqn : q.Nodup) (htp : cnt lost (colN d p n) + ql ≤ p) (hr0 : nb ≤ rec) (hr1 : rec < nx) (hrec : h rec = some ⟨[], LB, true⟩)
    (hy : ql = 0 ∨ ∃ yid, ya = some (yid, 0) ∧ nb ≤ yid ∧ yid < nx ∧ yid ≠ rec ∧ h yid = some ⟨ints .i64 (nints q), 1, true⟩) (hya : ∀ j o, ya = some (j, o) → ql = 0 ∨ (nb ≤ j ∧ j ≠ rec)) :
    ∃ us, UsOk d p n (lostL lost (colN d p n) ++ pickK (kept lost (colN d p n)) q) us ∧
      (((sA (tryB d p n v lost (lostL lost (colN d p n) ++ pickK (kept lost (colN d p n)) q) us) = s0 ∧ sB (tryB d p n v lost (lostL lost (colN d p n) ++ pickK (kept lost (colN d p n)) q) us) = s1 ∧ sC (tryB d p n v lost (lostL lost (colN d p n) ++ pickK (kept lost (colN d p n)) q) us) = s2 ∧ sD (tryB d p n v lost (lostL lost (colN d p n) ++ pickK (kept lost (colN d p n)) q) us) = s3) ∧
          ∃ da h' nx', F12_R4 (callP Try.prog keepT k) Y0 lf L0 rec (some (nx0, 0)) (some (nx0 + 1, 0)) (some (nx0 + 2, 0)) (some (nx0 + 3, 0)) (some (nx0 + 4, 0)) (some (nx0 + 5, 0)) (some (nx0 + 14, 0)) (some (lv, 0)) (some (kv, 0)) ya ql yc h nx = some (.bool false, h', nx') ∧ nx ≤ nx' ∧ h' rec = some ⟨[], LB + 2, true⟩ ∧ (∀ j, j < nx0 → h' j = h j) ∧ h' (nx0 + 3) = some ⟨[.slice da m true], 1, true⟩ ∧ h' (nx0 + 4) = some ⟨[.slice ya ql yc], 1, true⟩ ∧ h' (nx0 + 5) = some ⟨[.int .i64 0], 1, true⟩ ∧
            Sl h' nx' da m 1 (ints .u8 (nints ((tryB d p n v lost (lostL lost (colN d p n) ++ pickK (kept lost (colN d p n)) q) us).take m))) ∧ Sl h' nx' ya ql 1 (ints .i64 (nints (pickK (kept lost (colN d p n)) q))) ∧ ∀ pp, da = some pp → nx ≤ pp.1) ∨
       (¬ (sA (tryB d p n v lost (lostL lost (colN d p n) ++ pickK (kept lost (colN d p n)) q) us) = s0 ∧ sB (tryB d p n v lost (lostL lost (colN d p n) ++ pickK (kept lost (colN d p n)) q) us) = s1 ∧ sC (tryB d p n v lost (lostL lost (colN d p n) ++ pickK (kept lost (colN d p n)) q) us) = s2 ∧ sD (tryB d p n v lost (lostL lost (colN d p n) ++ pickK (kept lost (colN d p n)) q) us) = s3) ∧
          ∃ h' nx', F12_R4 (callP Try.prog keepT k) Y0 lf L0 rec (some (nx0, 0)) (some (nx0 + 1, 0)) (some (nx0 + 2, 0)) (some (nx0 + 3, 0)) (some (nx0 + 4, 0)) (some (nx0 + 5, 0)) (some (nx0 + 14, 0)) (some (lv, 0)) (some (kv, 0)) ya ql yc h nx = some (.bool true, h', nx') ∧ nx ≤ nx' ∧ h' rec = some ⟨[], LB, true⟩ ∧ (∀ j, j < nx → j ≠ rec → (∀ o, ya = some (j, o) → ql = 0) → h' j = h j))) := by
  have gp := g.pN
  have g8 := g.N8
  have kl8 := kept_le lost (colN d p n)
  obtain ⟨gs, hgs⟩ : ∃ gs, gs = lostL lost (colN d p n) ++ pickK (kept lost (colN d p n)) q := ⟨_, rfl⟩
  rw [← hgs]
  obtain ⟨h1, hh1⟩ : ∃ h1, h1 = h.put rec (some ⟨[], LB + 1, true⟩) := ⟨_, rfl⟩
  have p1 : ∀ j, j ≠ rec → h1 j = h j := fun j hj => by rw [hh1, put_ne hj]
  have r1 : h1 rec = some ⟨[], LB + 1, true⟩ := by rw [hh1, put_same]
  have lv1 := S.lv1
  have kv1 := S.kv1
  have lv0 := S.lv0
  have kv0 := S.kv0
  have x1 : Ext h nb h1 nb := ⟨Nat.le_refl _, fun j hj => p1 j (by omega)⟩
  have slk := (NRow.sl S.ok rfl).ext x1
  obtain ⟨f', h2, n2, e2, l2, k2, s2'⟩ := pick_all (callP Try.prog keepT k) lf L0 rec hlf (some (nx0, 0)) (some (nx0 + 1, 0)) (some (nx0 + 2, 0)) (some (nx0 + 3, 0)) (some (nx0 + 4, 0)) (some (nx0 + 5, 0)) (some (nx0 + 14, 0)) (some (lv, 0)) (kv := kv) (ka := ka) (ya := ya) (KL := kept lost (colN d p n)) (q := q) rfl (by omega) hqk kc yc (nb := nb) hql (by omega) (h0 := h1) (n0 := nx + 4) (by rw [p1 kv (by omega)]; exact S.bk) kv1 slk (fun pp hpp => S.ok.lt pp.1 ⟨pp.2, by rw [hpp]⟩) (by omega) (by
    rcases hy with z | ⟨yid, z1, z2, z3, z4, z5⟩
    · exact .inl z
    · exact .inr ⟨yid, z1, z2, by omega, by rw [p1 yid z4]; exact z5⟩)
  have k2' : ∀ j, j < nb → h2 j = h j := fun j hj => by
    rw [k2 j (by omega) (fun o ho => by
      rcases hya j o ho with z | z
      · exact z
      · omega), p1 j (by omega)]
  have x2 : Ext h nb h2 n2 := ⟨by omega, k2'⟩
  have r2 : h2 rec = some ⟨[], LB + 1, true⟩ := by
    rw [k2 rec (by omega) (fun o ho => by
      rcases hya rec o ho with z | z
      · exact z
      · exact absurd rfl z.2), r1]
  have bb2 := (k2' (nx0 + 14) (by omega)).trans S.bb
  have b12 := (k2' (nx0 + 1) (by omega)).trans S.b1
  have bl2 := (k2' lv lv1).trans S.bl
  have ol2 : OwnRows NRow h2 n2 la 1 (lostL lost (colN d p n)) := S.ol.go (x2.fr fun _ => False) (fun _ _ q => q) (fun _ _ q => q)
  have hpk : (pickK (kept lost (colN d p n)) q).length = ql := by unfold pickK; rw [List.length_map, hql]
  obtain ⟨ca, cc, h3, n3, q27, E, e3, x3, c27, f1, f2, s3', k3, i3⟩ := clone_app (f := k) (by omega) (lostL_len lost (colN d p n)) hpk (by omega) (by omega) lc ol2 s2' (i6 := n2 + 6) (by omega) (by omega)
  obtain ⟨H, hH⟩ : ∃ H, H = h3.puts E.sets := ⟨_, rfl⟩
  rw [← hH, ← hgs] at s3'
  rw [← hH] at k3
  have y3 := x3.1
  have xH : Ext h nb H n3 := ⟨by omega, fun j hj => by rw [k3 j (by omega), k2' j hj]⟩
  have hmemL : ∀ x ∈ lostL lost (colN d p n), x < colN d p n ∧ lost x = true := fun x hx => by
    obtain ⟨z1, z2⟩ := List.mem_filter.1 hx
    exact ⟨List.mem_range.1 z1, z2⟩
  have hmemK : ∀ x ∈ pickK (kept lost (colN d p n)) q, x < colN d p n ∧ lost x = false := fun x hx => by
    obtain ⟨y, hyq, rfl⟩ := List.mem_map.1 hx
    have := hqk y hyq
    rw [getD_at this]
    exact kept_mem (List.getElem_mem _)
  have hkpw : (kept lost (colN d p n)).Pairwise (· < ·) := List.Pairwise.filter _ List.pairwise_lt_range
  have hnd : gs.Nodup := by
    rw [hgs]
    refine List.nodup_append.2 ⟨?_, ?_, fun x hx y hy' e => ?_⟩
    · exact (List.Pairwise.filter _ List.pairwise_lt_range).imp fun h => Nat.ne_of_lt h
    · unfold pickK
      refine List.pairwise_map.2 (hqn.imp_of_mem fun {x y} hx hy' hne he => hne ?_)
      have h1 := hqk x hx
      have h2 := hqk y hy'
      rcases Nat.lt_trichotomy x y with l | l | l
      · have := pw_ne hkpw l h2; omega
      · exact l
      · have := pw_ne hkpw l h1; omega
    · subst e
      have h1 := (hmemL x hx).2
      have h2 := (hmemK x hy').2
      rw [h1] at h2; cases h2
  have hmem : ∀ x ∈ gs, x < colN d p n := fun x hx => by
    rw [hgs] at hx
    rcases List.mem_append.1 hx with z | z
    · exact (hmemL x z).1
    · exact (hmemK x z).1
  have hgl : gs.length = cnt lost (colN d p n) + ql := by rw [hgs, List.length_append, hpk]; rfl
  obtain ⟨us, oa, oc, h4, n4, e4, x4, s4, u1, u2, u3, oal⟩ := data_spec (f := k) (by omega) g hp hp3 hn32 (v := v) (lost := lost) (P := P) (xa := xa) (sa := sa) (ga := E.a) xc sc E.c (gs := gs) (t := cnt lost (colN d p n) + ql) (h := H) (nx := n3) (S.sh.ext xH) (sp.ext xH) (cl.ext xH) hgl hmem hnd htp s3'
  change Sl h4 n4 oa (n * 128) 1 (ints .u8 (nints (tryB d p n v lost gs us))) at s4
  have y4 := x4.1
  refine ⟨us, ⟨u1, u2, u3⟩, ?_⟩
  have tl := tryB_len g cl gs us
  have ts := tryB_small g cl gs us
  generalize tryB d p n v lost gs us = X at s4 tl ts ⊢
  obtain ⟨h5, n5, e5, x5⟩ := of_spec (f := k) (l := X) (m := n * 32) (by omega) (by omega) ts oc tl (s4.ext (nx' := n4 + 8) ⟨by omega, fun _ _ => rfl⟩)
  have y5 := x5.1
  have aa : AllApart [((idsOf E.sets), [nx0 + 14]), ((idsOf E.sets), [nx0 + 1])] := by
    refine ⟨fun z hz hz2 => ?_, fun z hz hz2 => ?_, trivial⟩
    · have := i3 z hz
      simp only [List.mem_singleton] at hz2; omega
    · have := i3 z hz
      simp only [List.mem_singleton] at hz2; omega
  have ak : AllKept [(h2, h3, [nx0 + 14]), (h2, h3, [nx0 + 1])] := by
    refine ⟨fun z hz => ?_, fun z hz => ?_, trivial⟩
    · simp only [List.mem_singleton] at hz; subst hz; exact x3.2 _ (by omega)
    · simp only [List.mem_singleton] at hz; subst hz; exact x3.2 _ (by omega)
  obtain ⟨h6, hh6⟩ : ∃ h6, h6 = AHeap.put (AHeap.put h5 (n4 + 5) (some ⟨[.int .i64 0, .int .i64 0, .int .i64 0, .int .i64 0], 4, true⟩)) (n4 + 5) (some ⟨[.int .i64 (sA X), .int .i64 (sB X), .int .i64 (sC X), .int .i64 (sD X)], 4, true⟩) := ⟨_, rfl⟩
  have k6 : ∀ j, j < n2 → h6 j = h2 j := fun j hj => by
    rw [hh6, put_ne (by omega), put_ne (by omega), x5.2 j (by omega), x4.2 j (by omega), k3 j hj]
  have b26 : h6 (nx0 + 2) = some ⟨[.int .i64 s0, .int .i64 s1, .int .i64 s2, .int .i64 s3], 4, true⟩ := by rw [k6 _ (by omega), k2' _ (by omega)]; exact S.b2
  have walk : F12_R4 (callP Try.prog keepT k) Y0 lf L0 rec (some (nx0, 0)) (some (nx0 + 1, 0)) (some (nx0 + 2, 0)) (some (nx0 + 3, 0)) (some (nx0 + 4, 0)) (some (nx0 + 5, 0)) (some (nx0 + 14, 0)) (some (lv, 0)) (some (kv, 0)) ya ql yc h nx =
      (if (eqCells [.int .i64 (sA X), .int .i64 (sB X), .int .i64 (sC X), .int .i64 (sD X)] [.int .i64 s0, .int .i64 s1, .int .i64 s2, .int .i64 s3]) = true then
        ((cutA h6 oa (n * 128) oc 1 none (some (.int .i64 (m : Int))) (some (.int .i64 (m : Int)))).bind fun s62 =>
        (stA h6 (nx0 + 3) 0 (.slice s62.1 s62.2.1 s62.2.2) 1).bind fun b64 =>
        (stA (h6.put (nx0 + 3) (some b64)) (nx0 + 4) 0 (.slice ya ql yc) 1).bind fun b67 =>
        (stA ((h6.put (nx0 + 3) (some b64)).put (nx0 + 4) (some b67)) (nx0 + 5) 0 (.int .i64 0) 1).bind fun b70 =>
        if isReady (((h6.put (nx0 + 3) (some b64)).put (nx0 + 4) (some b67)).put (nx0 + 5) (some b70)) rec (LB + 1) = true then some (.bool false, AHeap.put (((h6.put (nx0 + 3) (some b64)).put (nx0 + 4) (some b67)).put (nx0 + 5) (some b70)) rec (some ⟨[], LB + 2, true⟩), (n5 + 11)) else none)
      else (if isReady h6 rec (LB + 1) = true then some (.bool true, AHeap.put h6 rec (some ⟨[], LB, true⟩), (n5 + 3)) else none)) := by
    rw [F12_R4_eq, if_pos (isReady_at hrec)]
    dsimp only
    rw [← hh1, e2, F12_L5_eq, if_neg (by simp)]
    simp only [mst_]
    rw [ldr_all bb2 (by simp)]
    simp only [mst_]
    rw [ld_at b12 rfl]
    simp only [mst_]
    rw [ld_at bl2 rfl]
    simp only [mst_]
    rw [e3]
    simp only [mst_]
    rw [c27, some_bind, f1, some_bind, f2, ← hH, e4]
    simp only [mst_]
    rw [ifApart_pos aa, ifKept_pos ak, e5]
    simp only [mst_]
    rw [st_all (put_same _ _ _) (by simp) (by simp) (by simp [allOne, AV.one]), ← hh6]
    have b6 : h6 (n4 + 5) = some ⟨[.int .i64 (sA X), .int .i64 (sB X), .int .i64 (sC X), .int .i64 (sD X)], 4, true⟩ := by rw [hh6, put_same]
    rw [ldr_all b6 (by simp)]
    simp only [mst_]
    rw [ldr_all b26 (by simp)]
    simp only [mst_]
    have b06 : h6 nx0 = some ⟨[.int .i64 (m : Int)], 1, true⟩ := by rw [k6 _ (by omega), k2' _ (by omega)]; exact S.b0
    rw [ld_at b06 rfl]
    simp only [mst_]
    rw [ld_at b06 rfl]
    simp only [mst_]
  have r6 : h6 rec = some ⟨[], LB + 1, true⟩ := by rw [k6 rec (by omega), r2]
  have hle : nx ≤ n2 := by omega
  by_cases hs : sA X = s0 ∧ sB X = s1 ∧ sC X = s2 ∧ sD X = s3
  · left
    refine ⟨hs, ?_⟩
    rw [walk, if_pos (by simp [eqCells, eqA1, hs.1, hs.2.1, hs.2.2.1, hs.2.2.2])]
    have s6 : Sl h6 (n5 + 3) oa (n * 128) 1 (ints .u8 (nints X)) := s4.ext ⟨by omega, fun j hj => by rw [hh6, put_ne (by omega), put_ne (by omega), x5.2 j (by omega)]⟩
    have cut : cutA h6 oa (n * 128) oc 1 none (some (.int .i64 (m : Int))) (some (.int .i64 (m : Int))) = some (shiftAddr oa (0 * 1), m, true) := by
      have e : boundsD none (some (.int .i64 (m : Int))) (some (.int .i64 (m : Int))) (n * 128) = some (0, m, some m) := by
        show (boundA (some (.int .i64 (m : Int))) (n * 128) (n * 128)).bind _ = _
        rw [bound_some hmn, Option.bind_some, bound_some (Nat.le_refl m), Option.bind_some]; rfl
      unfold cutA
      rw [e]; simp
    obtain ⟨_, c2, _⟩ := s6.cut oc (lo := 0) (hi := m) (l := none) (r := some (.int .i64 (m : Int))) (by omega) hmn bound_none (bound_some hmn)
    rw [Nat.sub_zero] at c2
    have hcut : ((ints .u8 (nints X)).drop (0 * 1)).take (m * 1) = ints .u8 (nints (X.take m)) := by
      rw [Nat.zero_mul, List.drop_zero, Nat.mul_one, nints_take, ints, ints, List.map_take]
    rw [hcut] at c2
    have b3 : h6 (nx0 + 3) = some ⟨[.slice none 0 false], 1, true⟩ := by rw [k6 _ (by omega), k2' _ (by omega)]; exact S.b3
    have b4 : h6 (nx0 + 4) = some ⟨[.slice none 0 false], 1, true⟩ := by rw [k6 _ (by omega), k2' _ (by omega)]; exact S.b4
    have b5 : h6 (nx0 + 5) = some ⟨[.int .i64 0], 1, true⟩ := by rw [k6 _ (by omega), k2' _ (by omega)]; exact S.b5
    rw [cut, some_bind]
    dsimp only
    rw [st_to b3 rfl (by simp) (cs' := [.slice (shiftAddr oa (0 * 1)) m true]) (by simp)]
    rw [st_to ((put_ne (by omega)).trans b4) rfl (by simp) (cs' := [.slice ya ql yc]) (by simp)]
    rw [st_to ((put_ne (by omega)).trans ((put_ne (by omega)).trans b5)) rfl (by simp) (cs' := [.int .i64 0]) (by simp)]
    obtain ⟨h9, hh9⟩ : ∃ h9, h9 = ((h6.put (nx0 + 3) (some ⟨[.slice (shiftAddr oa (0 * 1)) m true], 1, true⟩)).put (nx0 + 4) (some ⟨[.slice ya ql yc], 1, true⟩)).put (nx0 + 5) (some ⟨[.int .i64 0], 1, true⟩) := ⟨_, rfl⟩
    rw [← hh9]
    have k9 : ∀ j, j ≠ nx0 + 3 → j ≠ nx0 + 4 → j ≠ nx0 + 5 → h9 j = h6 j := fun j j1 j2 j3 => by rw [hh9, put_ne j3, put_ne j2, put_ne j1]
    have r9 : h9 rec = some ⟨[], LB + 1, true⟩ := by rw [k9 rec (by omega) (by omega) (by omega), r6]
    rw [if_pos (isReady_at r9)]
    have hfr : Frm (fun j => j < nb ∨ j = rec) h6 (n5 + 3) (h9.put rec (some ⟨[], LB + 2, true⟩)) (n5 + 11) := ⟨by omega, fun j hj hne => by
      rw [put_ne (fun z => hne (.inr z)), k9 j (fun z => hne (.inl (by omega))) (fun z => hne (.inl (by omega))) (fun z => hne (.inl (by omega)))]⟩
    have hnx : ∀ pp, shiftAddr oa (0 * 1) = some pp → nx ≤ pp.1 := fun pp hpp => by
      cases oa with
      | none => cases hpp
      | some o =>
        have := oal o rfl
        have e := congrArg Prod.fst (Option.some.inj hpp)
        simp only at e; omega
    refine ⟨shiftAddr oa (0 * 1), _, n5 + 11, rfl, by omega, put_same _ _ _, fun j hj => ?_, ?_, ?_, ?_, ?_, ?_, hnx⟩
    · rw [put_ne (by omega), k9 j (by omega) (by omega) (by omega), k6 j (by omega), k2' j (by omega)]
    · rw [put_ne (by omega), hh9, put_ne (by omega), put_ne (by omega), put_same]
    · rw [put_ne (by omega), hh9, put_ne (by omega), put_same]
    · rw [put_ne (by omega), hh9, put_same]
    · refine c2.fr (D := fun j => j < nb ∨ j = rec) (fun hm0 pp hpp z => ?_) hfr
      have := hnx pp hpp
      omega
    · have s62 : Sl h6 (n5 + 3) ya ql 1 (ints .i64 (nints (pickK (kept lost (colN d p n)) q))) := s2'.ext ⟨by omega, k6⟩
      refine s62.fr (D := fun j => j < nb ∨ j = rec) (fun hm0 pp hpp z => ?_) hfr
      rcases hya pp.1 pp.2 (by rw [hpp]) with w | w
      · omega
      · rcases z with z | z
        · omega
        · exact w.2 z
  · right
    refine ⟨hs, ?_⟩
    rw [walk, if_neg (by simpa [eqCells, eqA1] using hs), if_pos (isReady_at r6)]
    refine ⟨_, n5 + 3, rfl, by omega, put_same _ _ _, fun j hj hne ho => ?_⟩
    rw [put_ne hne, k6 j (by omega), k2 j (by omega) ho, p1 j hne]

end Go.Proofs.Ytalfcokiooaliaa.T
