/- Snaps: a move, walked. -/
import Derived.Test.YtaikceooeahfeaaS8
set_option linter.unusedVariables false
set_option linter.unusedSimpArgs false
namespace Go.Proofs.Ytaikceooeahfeaa.T
open Go Go.RowKit Go.Proofs

def dsum (l : List PS) : Nat := (l.map fun s => s.dead.length).sum
/-- A keeper that may be; m: what is spare of the deaths. -/
structure PW (m : Int) (K : PK) : Prop where
  n0 : 0 ≤ K.now ∧ K.now ≤ 400
  k0 : 0 ≤ K.kept ∧ K.kept + m ≤ K.now
  bl : K.blocks.length ≤ 200
  sl : K.shots.length ≤ 9
  ds : (dsum K.shots : Int) + m ≤ K.now
  dv : ∀ s ∈ K.shots, ∀ b ∈ s.dead, 0 ≤ b ∧ b.toNat < K.blocks.length
  bv : ∀ x ∈ K.blocks, 0 ≤ x.1

theorem dsum_mem {l : List PS} {s : PS} (h : s ∈ l) : s.dead.length ≤ dsum l := by
  induction l with
  | nil => cases h
  | cons a l ih =>
    unfold dsum at *
    simp only [List.map_cons, List.sum_cons]
    cases h with
    | head => omega
    | tail _ h => have := ih h; omega

theorem move_spec {f : Nat} (hf : 1200 ≤ f) {h : AHeap} {nx kb : Nat} {K : KR} (w : KOk h nx kb K) (pw : PW 1 K.p) (kind which : Int) : Did kb h nx K (moveP K.p kind which) (callP Try.prog keepT f Y0 10 [.ptr (some (kb, 0)), .agg [.int .i64 kind, .int .i64 which]] h nx) := by
  obtain ⟨f, rfl⟩ : ∃ m, f = m + 1 := ⟨f - 1, by omega⟩
  have lk := w.lt
  have hsl : K.shots.length ≤ 9 := by have := pw.sl; unfold KR.p at this; simpa using this
  have hbl : K.blocks.length ≤ 200 := pw.bl
  have hdl : ∀ s ∈ K.shots, s.dead.length ≤ 500 := fun s hs => by
    have h1 := dsum_mem (l := K.p.shots) (s := s.p) (List.mem_map_of_mem hs)
    have h2 := pw.ds
    have h3 := pw.n0.2
    have h4 : s.p.dead.length = s.dead.length := rfl
    omega
  rw [F10_eq]
  dsimp only
  obtain ⟨h2, hh2⟩ : ∃ h2, h2 = (h.put nx (some ⟨[.int .i64 kind, .int .i64 which], 2, true⟩)).put (nx + 1) (some ⟨[.int .i64 0, .slice none 0 none], 2, true⟩) := ⟨_, rfl⟩
  rw [← hh2]
  have e0 : h2 nx = some ⟨[.int .i64 kind, .int .i64 which], 2, true⟩ := by rw [hh2, put_ne (by omega), put_same]
  have e1 : h2 (nx + 1) = some ⟨[.int .i64 0, .slice none 0 none], 2, true⟩ := by rw [hh2, put_same]
  have x02 : Ext h nx h2 (nx + 2) := ⟨by omega, fun i hi => by rw [hh2, put_ne (by omega), put_ne (by omega)]⟩
  have wN : ∀ N, nx + 2 ≤ N → KOk h2 N kb K := fun N hN => w.go (D := fun _ => False) ((x02.le hN).fr _) fun _ _ q => q
  have wlt := w.own_lt
  rw [ld_at e0 (v := .int .i64 kind) rfl]
  simp only [mst_]
  -- an answer without a turn
  have no : ∀ (e : Int) (N : Nat), nx + 2 ≤ N → ∃ h3, callP Try.prog keepT f Y0 11 [.int .i64 e] h2 N = some (.agg [.int .i64 e, .slice none 0 none], h3, N + 4) ∧ h3 (nx + 1) = some ⟨[.int .i64 0, .slice none 0 none], 2, true⟩ ∧
      Did kb h nx K (K.p, e, []) (some (.agg [.int .i64 e, .slice none 0 none], h3.put (nx + 1) (some ⟨[.int .i64 e, .slice none 0 none], 2, true⟩), N + 4)) := by
    intro e N hN
    obtain ⟨h3, p1, p2⟩ := no_spec (f := f) (by omega) Y0 e h2 N
    refine ⟨h3, p1, by rw [p2.2 _ (by omega)]; exact e1, ?_⟩
    have x : Ext h nx (h3.put (nx + 1) (some ⟨[.int .i64 e, .slice none 0 none], 2, true⟩)) (N + 4) := ⟨by omega, fun i hi => by rw [put_ne (by omega), p2.2 i (by omega), x02.2 i hi]⟩
    exact ⟨_, _, K, _, rfl, w.go (D := fun _ => False) (x.fr _) fun _ _ q => q, rfl, Gon.nil _ _ _ _, x.fr _, fun i hi => .inl hi⟩
  -- what another has done
  have pass : ∀ (g : PK × Int × List Int) (N : Nat) (o : Option Res), nx + 2 ≤ N → Did kb h2 N K g o →
      ∃ h3 n3 a n c, o = some (.agg [.int .i64 g.2.1, .slice a n c], h3, n3) ∧ h3 (nx + 1) = some ⟨[.int .i64 0, .slice none 0 none], 2, true⟩ ∧ Did kb h nx K g (some (.agg [.int .i64 g.2.1, .slice a n c], h3.put (nx + 1) (some ⟨[.int .i64 g.2.1, .slice a n c], 2, true⟩), n3)) := by
    rintro g N o hN ⟨h3, n3, K', r, rfl, z1, z2, ⟨v, rfl, a, c, rfl, z4, z5⟩, z6, z7⟩
    have nk : ¬ Kown kb K (nx + 1) := fun q => by have := wlt _ q; omega
    have nk' : ¬ Kown kb K' (nx + 1) := fun q => by
      rcases z7 _ q with q | q
      · exact nk q
      · omega
    refine ⟨h3, n3, a, g.2.2.length, c, rfl, by rw [z6.2 _ (by omega) nk]; exact e1, h3.put (nx + 1) (some ⟨[.int .i64 g.2.1, .slice a g.2.2.length c], 2, true⟩), n3, K', _, rfl, ?_, z2, ⟨_, rfl, a, c, rfl, ?_, z5.less fun j q => q.imp id (by omega)⟩, ?_, fun j hj => ?_⟩
    · exact z1.go (D := fun j => j = nx + 1) ⟨Nat.le_refl _, fun j _ hj => put_ne hj⟩ fun j hj q => nk' (q ▸ hj)
    · -- the answer's block has another element's size
      refine Sl.fr (D := fun j => j = nx + 1) z4 (fun hn p e q => ?_) ⟨Nat.le_refl _, fun j _ hj => put_ne hj⟩
      obtain ⟨p', b', y1, _, y3, y4, _⟩ := z4.2 0 hn
      rw [e] at y1; obtain rfl := Option.some.inj y1
      have e3 : h3 p.1 = some ⟨[.int .i64 0, .slice none 0 none], 2, true⟩ := by rw [q, z6.2 _ (by omega) nk]; exact e1
      rw [e3] at y3; obtain rfl := Option.some.inj y3
      cases y4
    · refine (x02.fr (Kown kb K)).trans (D1 := fun j => Kown kb K j ∨ j = nx + 1) ⟨by have := z6.1; omega, fun j hj hk => ?_⟩ fun j hj q => ?_
      · rw [put_ne (fun q => hk (.inr q))]
        exact z6.2 j (by omega) fun q => hk (.inl q)
      · rcases q with q | q
        · exact q
        · omega
    · rcases z7 j hj with q | q
      · exact .inl q
      · exact .inr (by omega)
  unfold moveP
  by_cases k1 : kind = 1
  · rw [if_pos k1, if_pos (show (kind == 1) = true by rw [k1]; rfl)]
    rw [ld_at (wN (nx + 2) (by omega)).blk (v := .slice K.ba K.blocks.length K.bc) rfl]
    simp only [mst_]
    have hpb : K.p.blocks = K.blocks := rfl
    rw [hpb]
    by_cases cb : K.blocks.length = 200
    · obtain ⟨h3, p1, p2, p3⟩ := no 8 (nx + 14) (by omega)
      rw [if_pos cb, if_pos (show (((K.blocks.length : Nat) : Int) == 200) = true by rw [cb]; rfl), p1]
      simp only [mst_]
      rw [st_all p2 (n := 2) rfl rfl (by rfl), ldr_all (put_same _ _ _) (n := 2) rfl]
      simp only [mst_]
      exact p3
    · rw [if_neg cb, if_neg (show ¬ (((K.blocks.length : Nat) : Int) == 200) = true by simp; omega)]
      rw [ld_at (wN (nx + 2) (by omega)).blk (v := .slice K.ba K.blocks.length K.bc) rfl]
      simp only [mst_]
      rw [ld_at (wN (nx + 2) (by omega)).blk (v := .int .i64 K.now) rfl]
      simp only [mst_]
      obtain ⟨e, q1, q2, q3, q4, q5, q6, q7⟩ := (wN (nx + 22) (by omega)).birth (id := nx + 22) (id2 := nx + 23) (by omega) (by omega) (by omega) (K.now, true)
      have hbr : brow (K.now, true) = [.int .i64 K.now, .bool true] := rfl
      rw [hbr] at q1 q2 q3 q5 q6
      rw [q1]
      simp only [mst_]
      rw [q2]
      simp only [mst_]
      rw [st_to q3 (cs' := KR.cells { K with blocks := K.blocks ++ [(K.now, true)], ba := e.a, bc := e.c }) rfl (by show 0 + 1 < 4; omega) q4]
      rw [ifApart_pos (by simp only [AllApart]; refine ⟨fun y hy => ?_, trivial⟩; simp at hy ⊢; omega)]
      have k30 := q6.2 (nx + 1) (by omega) (fun q => by have := wlt _ q; omega)
      obtain ⟨K2, hK2⟩ : ∃ K2 : KR, K2 = { K with blocks := K.blocks ++ [(K.now, true)], ba := e.a, bc := e.c } := ⟨_, rfl⟩
      rw [← hK2] at q5 q6 q7 k30 ⊢
      generalize ((h2.put (nx + 22) (some ⟨[.int .i64 K.now, .bool true], 2, true⟩)).puts e.sets).put kb (some ⟨K2.cells, 4, true⟩) = h30 at *
      rw [e1] at k30
      rw [st_all k30 (n := 2) rfl rfl (by rfl), ldr_all (put_same _ _ _) (n := 2) rfl]
      simp only [mst_]
      have nk2 : ¬ Kown kb K2 (nx + 1) := fun q => by
        rcases q7 _ q with q | q
        · have := wlt _ q; omega
        · omega
      refine ⟨_, _, K2, _, rfl, q5.go (D := fun j => j = nx + 1) ⟨by omega, fun j _ hj => put_ne hj⟩ (fun j hj q => nk2 (q ▸ hj)), by rw [hK2]; rfl, Gon.nil _ _ _ _, ?_, fun j hj => ?_⟩
      · refine (x02.fr (Kown kb K)).trans (D1 := fun j => Kown kb K j ∨ j = nx + 1) ⟨by omega, fun j hj hk => ?_⟩ fun j hj q => ?_
        · rw [put_ne (fun q => hk (.inr q))]
          exact q6.2 j (by omega) fun q => hk (.inl q)
        · rcases q with q | q
          · exact q
          · omega
      · rcases q7 j hj with q | q
        · exact .inl q
        · exact .inr (by omega)
  rw [if_neg k1, if_neg (show ¬ (kind == 1) = true by simpa using k1)]
  by_cases k2 : kind = 2
  · rw [if_pos k2, if_pos (show (kind == 2) = true by rw [k2]; rfl), ld_at e0 (v := .int .i64 which) rfl]
    simp only [mst_]
    obtain ⟨h3, n3, a, n, c, z1, z2, z3⟩ := pass _ (nx + 13) _ (by omega) (kill_spec (f := f) (by omega) Y0 (wN (nx + 13) (by omega)) which (by omega) (fun s hs => by have := hdl s hs; omega) (by omega))
    rw [z1]
    simp only [mst_]
    rw [st_all z2 (n := 2) rfl rfl (by rfl), ldr_all (put_same _ _ _) (n := 2) rfl]
    simp only [mst_]
    exact z3
  rw [if_neg k2, if_neg (show ¬ (kind == 2) = true by simpa using k2)]
  by_cases k3 : kind = 3
  · rw [if_pos k3, if_pos (show (kind == 3) = true by rw [k3]; rfl)]
    rw [ld_at (wN (nx + 2) (by omega)).blk (v := .slice K.sa K.shots.length K.sc) rfl]
    simp only [mst_]
    have hps : K.p.shots.length = K.shots.length := by show (K.shots.map SR.p).length = _; rw [List.length_map]
    rw [hps]
    by_cases cb : K.shots.length = 9
    · obtain ⟨h3, p1, p2, p3⟩ := no 8 (nx + 18) (by omega)
      rw [if_pos cb, if_pos (show (((K.shots.length : Nat) : Int) == 9) = true by rw [cb]; rfl), p1]
      simp only [mst_]
      rw [st_all p2 (n := 2) rfl rfl (by rfl), ldr_all (put_same _ _ _) (n := 2) rfl]
      simp only [mst_]
      exact p3
    · rw [if_neg cb, if_neg (show ¬ (((K.shots.length : Nat) : Int) == 9) = true by simp; omega)]
      rw [ld_at (wN (nx + 2) (by omega)).blk (v := .slice K.sa K.shots.length K.sc) rfl]
      simp only [mst_]
      rw [ld_at (wN (nx + 2) (by omega)).blk (v := .int .i64 K.kept) rfl]
      simp only [mst_]
      rw [ld_at (wN (nx + 2) (by omega)).blk (v := .int .i64 K.now) rfl]
      simp only [mst_]
      obtain ⟨e, q1, q2, q3, q4, q5, q6, q7⟩ := (wN (nx + 30) (by omega)).snap (id := nx + 30) (id2 := nx + 31) (by omega) (by omega) (by omega) K.kept K.now (K.kept + 1)
      rw [q1]
      simp only [mst_]
      rw [q2]
      simp only [mst_]
      rw [st_to q3 (cs' := [.int .i64 K.now, .slice K.ba K.blocks.length K.bc, .slice e.a e.n e.c, .int .i64 K.kept]) rfl (by show 0 + 2 < 4; omega) rfl]
      rw [ifApart_pos (by simp only [AllApart]; refine ⟨fun y hy => ?_, trivial⟩; simp at hy ⊢; omega)]
      have hk1 : wrapA .i64 (K.kept + 1) = K.kept + 1 := by
        have h1 := pw.k0
        have h2 := pw.n0
        have h3 : K.p.kept = K.kept := rfl
        have h4 : K.p.now = K.now := rfl
        exact wA (by omega) (by omega)
      rw [ld_at (put_same _ _ _) (v := .int .i64 K.kept) rfl]
      simp only [mst_]
      rw [hk1]
      obtain ⟨K2, hK2⟩ : ∃ K2 : KR, K2 = { K with shots := K.shots ++ [⟨K.kept, K.now, [], none, none⟩], sa := e.a, sc := e.c, kept := K.kept + 1 } := ⟨_, rfl⟩
      rw [st_to (put_same _ _ _) (cs' := K2.cells) rfl (by show 0 + 3 < 4; omega) (by rw [hK2]; simp only [KR.cells, List.length_append, q4]; rfl), put_put]
      rw [← hK2] at q5 q6 q7
      have k30 := q6.2 (nx + 1) (by omega) (fun q => by have := wlt _ q; omega)
      generalize ((h2.put (nx + 30) (some ⟨[.int .i64 K.kept, .int .i64 K.now, .slice none 0 none], 3, true⟩)).puts e.sets).put kb (some ⟨K2.cells, 4, true⟩) = h30 at *
      rw [e1] at k30
      rw [st_all k30 (n := 2) rfl rfl (by rfl), ldr_all (put_same _ _ _) (n := 2) rfl]
      simp only [mst_]
      have nk2 : ¬ Kown kb K2 (nx + 1) := fun q => by
        rcases q7 _ q with q | q
        · have := wlt _ q; omega
        · omega
      refine ⟨_, _, K2, _, rfl, q5.go (D := fun j => j = nx + 1) ⟨by omega, fun j _ hj => put_ne hj⟩ (fun j hj q => nk2 (q ▸ hj)), ?_, Gon.nil _ _ _ _, ?_, fun j hj => ?_⟩
      · rw [hK2]
        show (⟨K.now, K.kept + 1, K.blocks, (K.shots ++ [(⟨K.kept, K.now, [], none, none⟩ : SR)]).map SR.p⟩ : PK) = _
        rw [List.map_append]; rfl
      · refine (x02.fr (Kown kb K)).trans (D1 := fun j => Kown kb K j ∨ j = nx + 1) ⟨by omega, fun j hj hk => ?_⟩ fun j hj q => ?_
        · rw [put_ne (fun q => hk (.inr q))]
          exact q6.2 j (by omega) fun q => hk (.inl q)
        · rcases q with q | q
          · exact q
          · omega
      · rcases q7 j hj with q | q
        · exact .inl q
        · exact .inr (by omega)
  rw [if_neg k3, if_neg (show ¬ (kind == 3) = true by simpa using k3)]
  by_cases k4 : kind = 4
  · rw [if_pos k4, if_pos (show (kind == 4) = true by rw [k4]; rfl), ld_at e0 (v := .int .i64 which) rfl]
    simp only [mst_]
    obtain ⟨h3, n3, a, n, c, z1, z2, z3⟩ := pass _ (nx + 17) _ (by omega) (drop_spec (f := f) (by omega) (wN (nx + 17) (by omega)) which (by omega) hdl (fun s hs b hb => pw.dv s.p (List.mem_map_of_mem hs) b hb) pw.bv)
    rw [z1]
    simp only [mst_]
    rw [st_all z2 (n := 2) rfl rfl (by rfl), ldr_all (put_same _ _ _) (n := 2) rfl]
    simp only [mst_]
    exact z3
  · rw [if_neg k4, if_neg (show ¬ (kind == 4) = true by simpa using k4)]
    obtain ⟨h3, p1, p2, p3⟩ := no 3 (nx + 14) (by omega)
    rw [p1]
    simp only [mst_]
    rw [st_all p2 (n := 2) rfl rfl (by rfl), ldr_all (put_same _ _ _) (n := 2) rfl]
    simp only [mst_]
    exact p3

end Go.Proofs.Ytaikceooeahfeaa.T
