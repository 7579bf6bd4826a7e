/- Pools: snapshots. -/
import Derived.Test.YtncmdbpoceilgaaP5
set_option linter.unusedVariables false
set_option linter.unusedSimpArgs false
namespace Go.Proofs.Ytncmdbpoceilgaa.T
open Go Go.RowKit Go.Proofs
set_option maxRecDepth 10000
variable {X : Nat → Prop}

theorem PM.turnK {h h' : AHeap} {nx nx' S o k : Nat} {s : Pl} (p : PM X h nx S o k s) (f : Frm (fun i => i = k) h nx h' nx') {snaps' : List (ByteArray × Objs)} (m : MapM (RM h' nx' (Avd X S o k)) h' k snaps') : PM X h' nx' S o k { s with snaps := snaps' } :=
  ⟨(f.2 S p.lS p.Sk).trans p.st, p.ob.mono (f.2 o p.lo p.ok) fun _ _ r => Byt.go r f (fun _ _ q => .inl (.inr (.inr q))) fun _ _ q => q, m,
   by have := p.lS; have := f.1; omega, by have := p.lo; have := f.1; omega, by have := p.lk; have := f.1; omega, p.So, p.Sk, p.ok, fun i hi => by have := p.lX i hi; have := f.1; omega⟩
theorem PM.turnS {h h' : AHeap} {nx nx' S o o' k : Nat} {s : Pl} (p : PM X h nx S o k s) (f : Frm (fun i => i = S) h nx h' nx') (e : h' S = some ⟨[.mapv (some o'), .mapv (some k), .slice none 0 none], 3, true⟩) (l1 : nx ≤ o') (l2 : o' < nx') {obj' : Objs} (m : MapM (RB h' nx' (Avd X S o' k)) h' o' obj') : PM X h' nx' S o' k { s with obj := obj' } := by
  have lS := p.lS; have lk := p.lk; have f1 := f.1
  exact ⟨e, m, p.sn.mono (f.2 k p.lk (fun q => p.Sk q.symm)) fun _ _ r => RM.go r f (fun _ _ q => .inl (.inl q)) fun i hi q => by
    rcases q with (q | q | q) | q
    · exact .inl (.inl q)
    · omega
    · exact .inl (.inr (.inr q))
    · exact .inr q, by omega, l2, by omega, by omega, p.Sk, by omega, fun i hi => by have := p.lX i hi; omega⟩
theorem DoRes.mk0 {h h' : AHeap} {nx nx' S o o' k : Nat} {s' : Pl} {e z : Int} (p : PM X h' nx' S o' k s') (f : Frm (Bst S o k) h nx h' nx') (ho : o' = o ∨ nx ≤ o') {r : Option (AV × AHeap × Nat)}
    (hr : r = some (.agg [.int .i64 e, .bool false, .int .i64 z, .slice none 0 none, .slice none 0 none], h', nx')) : DoRes X h nx S o k ⟨e, z, [], []⟩ s' r :=
  ⟨_, h', nx', o', hr, ⟨_, _, rfl, Byt.none _ _ _ _ _, Txt.none _ _ _ _ _⟩, p, f, ho⟩
theorem DoRes.no {n : Nat} (Y : YldF) {h h2 : AHeap} {nx m0 S o k : Nat} {s : Pl} (p : PM X h nx S o k s) (x2 : Ext h nx h2 m0) (hm : nx + 2 ≤ m0) {l : List AV} (b2 : h2 (nx + 1) = some ⟨l, 5, true⟩) (hl : l.length = 5) (e : Int) {z : Tld × Pl} (hz : z = (noT e, s)) :
    DoRes X h nx S o k z.1 z.2 ((callP Try.prog keepT (n + 1) Y 23 [.int .i64 e] h2 m0).bind fun r5 => (asAgg 5 r5.1).bind fun d6 =>
      (asI .i64 (d6.getD 0 .bad)).bind fun n7 =>
      (asB (d6.getD 1 .bad)).bind fun t8 =>
      (asI .i64 (d6.getD 2 .bad)).bind fun n9 =>
      (asSl (d6.getD 3 .bad)).bind fun s10 =>
      (asSl (d6.getD 4 .bad)).bind fun s11 =>
      (stA r5.2.1 (nx + 1) 0 (.agg [(.int .i64 n7), (.bool t8), (.int .i64 n9), (.slice s10.1 s10.2.1 s10.2.2), (.slice s11.1 s11.2.1 s11.2.2)]) 5).bind fun b12 =>
      (ldR (AHeap.put r5.2.1 (nx + 1) (some b12)) (nx + 1) 0 5).bind fun l14 =>
      (asAgg 5 (AV.agg l14)).bind fun d15 =>
      (asI .i64 (d15.getD 0 .bad)).bind fun n16 =>
      (asB (d15.getD 1 .bad)).bind fun t17 =>
      (asI .i64 (d15.getD 2 .bad)).bind fun n18 =>
      (asSl (d15.getD 3 .bad)).bind fun s19 =>
      (asSl (d15.getD 4 .bad)).bind fun s20 =>
      some ((AV.agg [(.int .i64 n16), (.bool t17), (.int .i64 n18), (.slice s19.1 s19.2.1 s19.2.2), (.slice s20.1 s20.2.1 s20.2.2)]), AHeap.put r5.2.1 (nx + 1) (some b12), r5.2.2)) := by
  rw [tail5 (no_eq _ Y e h2 m0) (show (h2.put m0 _) (nx + 1) = _ from (put_ne (by omega)).trans b2) hl, hz]
  refine DoRes.same ⟨_, _, _, rfl, ?_, ToldR.no _ _ _ _⟩ p
  have y1 := x2.put (i := m0) (b := some ⟨[.int .i64 e, .bool false, .int .i64 0, .slice none 0 none, .slice none 0 none], 5, true⟩) (by omega) (Nat.le_refl _)
  exact y1.put (i := nx + 1) (by omega) (by omega)
theorem clone33 (n : Nat) (Y : YldF) {h : AHeap} {nx o : Nat} {cs : List AV} (e : h o = some ⟨cs, MB, true⟩) : callP Try.prog keepT (n + 1) Y 33 [.mapv (some o)] h nx = some (.mapv (some nx), h.put nx (some ⟨cs, MB, true⟩), nx + 1) := by
  rw [F33_eq]
  show orcClone (some o) h nx = _
  unfold orcClone
  simp only
  rw [mapD_at e]; rfl

theorem snap_spec {n : Nat} (hn : 1020 ≤ n) (Y : YldF) {h : AHeap} {nx S o k : Nat} {s : Pl} (p : PM X h nx S o k s) (ok : s.Ok) (c : Cmd) (x5 x6 : Int) {da : Option (Nat × Nat)} (dc : Option Nat)
    (hs : c.other.size ≤ 1000) (hk : c.kind = 7 ∨ c.kind = 8 ∨ c.kind = 9 ∨ c.kind = 10) :
    DoRes X h nx S o k (snapP s c).1 (snapP s c).2 (callP Try.prog keepT n Y 26 [.ptr (some (S, 0)), .agg (cmdV c x5 x6 da dc)] h nx) := by
  obtain ⟨n, rfl⟩ : ∃ m, n = m + 9 := ⟨n - 9, by omega⟩
  unfold cmdV
  rw [F26_eq]
  dsimp only
  obtain ⟨h2, hh2⟩ : ∃ h2, h2 = AHeap.put (AHeap.put h nx (some ⟨[.int .i64 c.kind, .str c.name, .str c.other, .int .i64 c.off, .int .i64 c.count, .int .i64 x5, .int .i64 x6, .slice da c.data.length dc], 8, true⟩)) (nx + 1) (some ⟨[.int .i64 0, .bool false, .int .i64 0, .slice none 0 none, .slice none 0 none], 5, true⟩) := ⟨_, rfl⟩
  rw [← hh2]
  have b1 : h2 nx = some ⟨[.int .i64 c.kind, .str c.name, .str c.other, .int .i64 c.off, .int .i64 c.count, .int .i64 x5, .int .i64 x6, .slice da c.data.length dc], 8, true⟩ := by rw [hh2, put_ne (by omega), put_same]
  have b2 : h2 (nx + 1) = some ⟨[.int .i64 0, .bool false, .int .i64 0, .slice none 0 none, .slice none 0 none], 5, true⟩ := by rw [hh2, put_same]
  have x2 : Ext h nx h2 (nx + 2) := by rw [hh2]; exact ((Ext.refl h nx).put (m' := nx + 1) (by omega) (by omega)).put (by omega) (by omega)
  clear hh2
  have lS := p.lS; have lo := p.lo; have lk := p.lk
  have So := p.So; have Sk := p.Sk; have okne := p.ok
  have p2 := p.ext x2
  rw [ld_at b1 (show _ = some (AV.int .i64 c.kind) from rfl)]
  simp only [mst_, mst5_]
  by_cases k7 : c.kind = 7
  · rw [if_pos (by simpa using k7), ld_at p2.st (show _ = some (AV.mapv (some k)) from rfl)]
    simp only [mst_, mst5_]
    rw [ld_at b1 (show _ = some (AV.str c.other) from rfl)]
    simp only [mst_, mst5_]
    obtain ⟨h3, n3, r1, r2⟩ := room32 (n := n + 8) (by omega) Y (h := h2) (nx := nx + 13) (o := k) (by omega) (p.ext (x2.le (by omega : nx + 2 ≤ nx + 13))).sn hs 3
    rw [show ((3 : Nat) : Int) = 3 from rfl] at r1
    rw [r1]
    simp only [mst_, mst5_]
    have x3 : Ext h nx h3 n3 := ⟨by have := r2.1; omega, fun i hi => (r2.2 i (by omega)).trans (x2.2 i hi)⟩
    have hn3 : nx + 13 ≤ n3 := r2.1
    have p3 := p.ext x3
    by_cases e0 : roomP s.snaps c.other 3 = 0
    · rw [if_pos (by rw [e0]; rfl)]
      try simp only [mst_, mst5_]
      rw [ld_at p3.st (show _ = some (AV.mapv (some k)) from rfl)]
      simp only [mst_, mst5_]
      rw [ld_at ((r2.2 nx (by omega)).trans b1) (show _ = some (AV.str c.other) from rfl)]
      simp only [mst_, mst5_]
      rw [ld_at p3.st (show _ = some (AV.mapv (some o)) from rfl)]
      simp only [mst_, mst5_]
      obtain ⟨cs, e1, e2⟩ := p3.ob
      rw [clone33 (n + 7) Y e1]
      simp only [mst_, mst5_]
      obtain ⟨ds, d1, d2⟩ := p3.sn
      have x4 : Ext h3 n3 (h3.put (n3 + 14) (some ⟨cs, MB, true⟩)) (n3 + 15) := (Ext.refl h3 n3).put (by omega) (by omega)
      have p4 := p3.ext x4
      obtain ⟨ds', u1, u2⟩ := upd_ent (R := RM (h3.put (n3 + 14) (some ⟨cs, MB, true⟩)) (n3 + 15) (Avd X S o k)) (k := c.other) (x := s.obj) (v := .mapv (some (n3 + 14))) (d2.mono fun _ _ ⟨u, q1, q2⟩ => ⟨u, q1, RM.go q2 (x4.fr fun _ => False) (fun _ _ q => q.elim) fun _ _ q => q⟩)
        ⟨n3 + 14, rfl, by omega, by
          rintro (q | q)
          · unfold Bst at q; omega
          · have := p3.lX _ q; omega, cs, put_same _ _ _, e2.mono fun _ _ ⟨u, q1, q2⟩ => ⟨u, q1, Byt.go q2 (x4.fr fun _ => False) (fun _ _ q => q.elim) fun _ _ q => q⟩⟩
      rw [mapD_at ((x4.2 k (by omega)).trans d1)]
      simp only [mst_, mst5_]
      rw [u1]
      simp only [mst_, mst5_]
      rw [ifKept_pos (by
        refine ⟨fun i hi => ?_, fun i hi => ?_, trivial⟩
        · have : i = S := by simpa using hi
          subst this; exact x4.2 _ (by omega)
        · have : i = nx := by simpa using hi
          subst this; exact x4.2 _ (by omega))]
      have hb : ((h3.put (n3 + 14) (some ⟨cs, MB, true⟩)).put k (some ⟨ds', MB, true⟩)) (nx + 1) = some ⟨[.int .i64 0, .bool false, .int .i64 0, .slice none 0 none, .slice none 0 none], 5, true⟩ := by
        rw [put_ne (by omega), put_ne (by omega)]; exact (r2.2 _ (by omega)).trans b2
      rw [tail5 (no_eq _ Y _ _ _) (show ((AHeap.put _ _ _).put _ _) (nx + 1) = _ from (put_ne (by omega)).trans hb) rfl]
      rw [show snapP s c = (noT (roomP s.snaps c.other 3), { s with snaps := setO c.other s.obj s.snaps }) from by unfold snapP; rw [if_pos k7]; simp [e0]]
      have f0 : Frm (fun i => i = k) h nx ((h3.put (n3 + 14) (some ⟨cs, MB, true⟩)).put k (some ⟨ds', MB, true⟩)) (n3 + 15) := ((x3.trans (x4.from (Nat.le_refl _))).fr _).put (.inl rfl) (by omega)
      have f1 := f0.put (i := n3 + 15 + 3) (b := some ⟨[.int .i64 (roomP s.snaps c.other 3), .bool false, .int .i64 0, .slice none 0 none, .slice none 0 none], 5, true⟩) (m := n3 + 15 + 3) (.inr (by omega)) (by omega)
      have f2 := f1.put (i := nx + 1) (b := some ⟨[.int .i64 (roomP s.snaps c.other 3), .bool false, .int .i64 0, .slice none 0 none, .slice none 0 none], 5, true⟩) (m := n3 + 15 + 3 + 4) (.inr (by omega)) (by omega)
      have g : Frm (fun i => i = k ∨ i = nx + 1) (h3.put (n3 + 14) (some ⟨cs, MB, true⟩)) (n3 + 15) ((((h3.put (n3 + 14) (some ⟨cs, MB, true⟩)).put k (some ⟨ds', MB, true⟩)).put (n3 + 15 + 3) (some ⟨[.int .i64 (roomP s.snaps c.other 3), .bool false, .int .i64 0, .slice none 0 none, .slice none 0 none], 5, true⟩)).put (nx + 1) (some ⟨[.int .i64 (roomP s.snaps c.other 3), .bool false, .int .i64 0, .slice none 0 none, .slice none 0 none], 5, true⟩)) (n3 + 15 + 3 + 4) :=
        ⟨by omega, fun i hi hd => by rw [put_ne (by omega), put_ne (by omega), put_ne (by omega)]⟩
      have hbx : (h3.put (n3 + 14) (some ⟨cs, MB, true⟩)) (nx + 1) = some ⟨[.int .i64 0, .bool false, .int .i64 0, .slice none 0 none, .slice none 0 none], 5, true⟩ := by
        rw [put_ne (by omega)]; exact (r2.2 _ (by omega)).trans b2
      have hBy : ∀ bs v, RB (h3.put (n3 + 14) (some ⟨cs, MB, true⟩)) (n3 + 15) (Avd X S o k) bs v → RB _ (n3 + 15 + 3 + 4) (Avd X S o k) bs v := fun bs v ⟨a, cc, e, s1, s2⟩ => ⟨a, cc, e, s1.fr (fun hn pp ep q => by
        rcases q with q | q
        · exact s2 hn pp ep (.inl (.inr (.inr q)))
        · obtain ⟨pb, bb, t1, t2, t3, t4, _⟩ := s1.2 0 hn
          rw [t1] at ep; obtain rfl := Option.some.inj ep
          rw [q, hbx] at t3
          obtain rfl := Option.some.inj t3
          cases t4) g, s2⟩
      refine DoRes.mk0 (p.turnK f2 ⟨ds', by rw [put_ne (by omega), put_ne (by omega), put_same], u2.mono fun w u ⟨u', q1, j, j1, j2, j3, j4⟩ => ⟨u', q1, j, j1, by omega, j3, j4.mono (g.2 j j2 (fun q => ?_)) hBy⟩⟩) (f2.more fun _ _ q => .inr (.inr q)) (.inl rfl) rfl
      rcases q with q | q
      · exact j3 (.inl (.inr (.inr q)))
      · obtain ⟨cs5, m1, _⟩ := j4
        rw [q, hbx] at m1
        exact absurd (congrArg (fun b => b.map ABlk.es) m1) (by simp; decide)
    · rw [if_neg (by simpa using e0)]
      exact DoRes.no Y p (x3.le (by omega)) (by omega) ((r2.2 _ (by omega)).trans b2) rfl _ (by unfold snapP; rw [if_pos k7]; simp [e0])
  · rw [if_neg (by simpa using k7)]
    try simp only [mst_, mst5_]
    rw [ld_at p2.st (show _ = some (AV.mapv (some k)) from rfl)]
    simp only [mst_, mst5_]
    rw [ld_at b1 (show _ = some (AV.str c.other) from rfl)]
    simp only [mst_, mst5_]
    obtain ⟨ds, d1, d2⟩ := p2.sn
    rw [mapO_at d1]
    simp only [mst_, mst5_]
    rcases find_ent c.other d2 0 with ⟨q1, q2, _⟩ | ⟨l, j0, v, q1, q2, ⟨j, rfl, j2, j3, j4⟩, _, q4⟩
    · rw [q2]
      simp only [mst_, mst5_]
      rw [show asMp (valE (.mapv none) none) = some none from rfl]
      simp only [mst_, mst5_]
      rw [if_pos (by rfl)]
      exact DoRes.no Y p (x2.le (by omega)) (by omega) b2 rfl _ (by unfold snapP; rw [if_neg k7, q1])
    · rw [q2]
      simp only [mst_, mst5_]
      rw [show asMp (valE (.mapv none) (some (0 + j0, .mapv (some j)))) = some (some j) from by simp [valE, asMp]]
      simp only [mst_, mst5_]
      rw [if_neg (by simp [hasE]), ld_at b1 (show _ = some (AV.int .i64 c.kind) from rfl)]
      simp only [mst_, mst5_]
      obtain ⟨cs, e1, e2⟩ := j4
      by_cases k9 : c.kind = 9
      · rw [if_pos (by simpa using k9), clone33 (n + 7) Y e1]
        simp only [mst_, mst5_]
        have x4 : Ext h nx (h2.put (nx + 29) (some ⟨cs, MB, true⟩)) (nx + 30) := x2.put (by omega) (by omega)
        rw [st_to (cs' := [.mapv (some (nx + 29)), .mapv (some k), .slice none 0 none]) ((x4.2 S lS).trans p.st) rfl (by simp) rfl]
        rw [tail5l (show (AHeap.put _ S _) (nx + 1) = _ from (put_ne (by omega)).trans ((put_ne (by omega)).trans b2)) rfl]
        rw [show snapP s c = (⟨0, 0, [], []⟩, { s with obj := l }) from by unfold snapP; rw [if_neg k7, q1]; simp [k9, noT]]
        have f0 : Frm (fun i => i = S) h nx ((h2.put (nx + 29) (some ⟨cs, MB, true⟩)).put S (some ⟨[.mapv (some (nx + 29)), .mapv (some k), .slice none 0 none], 3, true⟩)) (nx + 30) := (x4.fr _).put (.inl rfl) (by omega)
        have f1 := f0.put (i := nx + 1) (b := some ⟨[.int .i64 0, .bool false, .int .i64 0, .slice none 0 none, .slice none 0 none], 5, true⟩) (m := nx + 29 + 1 + 2) (.inr (by omega)) (by omega)
        have g : Frm (fun i => i = S ∨ i = nx + 1) h2 (nx + 2) (((h2.put (nx + 29) (some ⟨cs, MB, true⟩)).put S (some ⟨[.mapv (some (nx + 29)), .mapv (some k), .slice none 0 none], 3, true⟩)).put (nx + 1) (some ⟨[.int .i64 0, .bool false, .int .i64 0, .slice none 0 none, .slice none 0 none], 5, true⟩)) (nx + 29 + 1 + 2) :=
          ⟨by omega, fun i hi hd => by rw [put_ne (by omega), put_ne (by omega), put_ne (by omega)]⟩
        refine DoRes.mk0 (p.turnS f1 (by rw [put_ne (by omega), put_same]) (by omega) (by omega) ⟨cs, by rw [put_ne (by omega), put_ne (by omega), put_same], e2.mono fun w u ⟨u', t1, ba, bc, t2, s1, s2⟩ => ⟨u', t1, ba, bc, t2, s1.fr (fun hn pp ep q => ?_) g, s2.go s1 fun i hi q => ?_⟩⟩) (f1.more fun _ _ q => .inl q) (.inr (by omega)) rfl
        · rcases q with q | q
          · exact s2 hn pp ep (.inl (.inl q))
          · obtain ⟨pb, bb, t1, t2, t3, t4, _⟩ := s1.2 0 hn
            rw [t1] at ep; obtain rfl := Option.some.inj ep
            rw [q, b2] at t3
            obtain rfl := Option.some.inj t3
            cases t4
        · rcases q with (q | q | q) | q
          · exact .inl (.inl q)
          · omega
          · exact .inl (.inr (.inr q))
          · exact .inr q
      · rw [if_neg (by simpa using k9)]
        by_cases k10 : c.kind = 10
        · rw [if_pos (by simpa using k10)]
          try simp only [mst_, mst5_]
          rw [ld_at p2.st (show _ = some (AV.mapv (some k)) from rfl)]
          simp only [mst_, mst5_]
          rw [ld_at b1 (show _ = some (AV.str c.other) from rfl)]
          simp only [mst_, mst5_]
          rw [mapD_at d1]
          simp only [mst_, mst5_]
          obtain ⟨ds', u1, u2⟩ := del_ent (k := c.other) d2
          rw [u1]
          simp only [mst_, mst5_]
          rw [tail5l (show (AHeap.put _ k _) (nx + 1) = _ from (put_ne (by omega)).trans b2) rfl]
          rw [show snapP s c = (⟨0, 0, [], []⟩, { s with snaps := delO c.other s.snaps }) from by unfold snapP; rw [if_neg k7, q1]; simp [k10, noT]]
          have f0 : Frm (fun i => i = k) h nx (h2.put k (some ⟨ds', MB, true⟩)) (nx + 2) := (x2.fr _).put (.inl rfl) (Nat.le_refl _)
          have f1 := f0.put (i := nx + 1) (b := some ⟨[.int .i64 0, .bool false, .int .i64 0, .slice none 0 none, .slice none 0 none], 5, true⟩) (m := nx + 34) (.inr (by omega)) (by omega)
          have g : Frm (fun i => i = k ∨ i = nx + 1) h2 (nx + 2) ((h2.put k (some ⟨ds', MB, true⟩)).put (nx + 1) (some ⟨[.int .i64 0, .bool false, .int .i64 0, .slice none 0 none, .slice none 0 none], 5, true⟩)) (nx + 34) :=
            ⟨by omega, fun i hi hd => by rw [put_ne (by omega), put_ne (by omega)]⟩
          have hBy : ∀ bs v, RB h2 (nx + 2) (Avd X S o k) bs v → RB ((h2.put k (some ⟨ds', MB, true⟩)).put (nx + 1) (some ⟨[.int .i64 0, .bool false, .int .i64 0, .slice none 0 none, .slice none 0 none], 5, true⟩)) (nx + 34) (Avd X S o k) bs v := fun bs v ⟨a, cc, e, s1, s2⟩ => ⟨a, cc, e, s1.fr (fun hn pp ep q => by
            rcases q with q | q
            · exact s2 hn pp ep (.inl (.inr (.inr q)))
            · obtain ⟨pb, bb, t1, t2, t3, t4, _⟩ := s1.2 0 hn
              rw [t1] at ep; obtain rfl := Option.some.inj ep
              rw [q, b2] at t3
              obtain rfl := Option.some.inj t3
              cases t4) g, s2⟩
          refine DoRes.mk0 (p.turnK f1 ⟨ds', by rw [put_ne (by omega), put_same], u2.mono fun w u ⟨u', t1, i, i1, i2, i3, i4⟩ => ⟨u', t1, i, i1, by omega, i3, i4.mono (g.2 i i2 (fun q => ?_)) hBy⟩⟩) (f1.more fun _ _ q => .inr (.inr q)) (.inl rfl) rfl
          rcases q with q | q
          · exact i3 (.inl (.inr (.inr q)))
          · obtain ⟨cs5, m1, _⟩ := i4
            rw [q, b2] at m1
            exact absurd (congrArg (fun b => b.map ABlk.es) m1) (by simp; decide)
        · have k8 : c.kind = 8 := by omega
          rw [if_neg (by simpa using k10), if_pos (by simpa using k8), ld_at b1 (show _ = some (AV.str c.name) from rfl)]
          simp only [mst_, mst5_]
          rw [mapO_at e1]
          simp only [mst_, mst5_]
          rcases find_ent c.name e2 0 with ⟨t1, t2, _⟩ | ⟨x, i0, v, t1, t2, ⟨ba, bc, rfl, s1, s2⟩, _, _⟩
          · rw [t2]
            simp only [mst_, mst5_]
            rw [show asSl (valE (.slice none 0 none) none) = some (none, 0, none) from rfl]
            simp only [mst_, mst5_]
            rw [if_pos (by rfl)]
            exact DoRes.no Y p (x2.le (by omega)) (by omega) b2 rfl _ (by unfold snapP; rw [if_neg k7, q1]; simp [k9, k10, t1])
          · rw [t2]
            simp only [mst_, mst5_]
            rw [show asSl (valE (.slice none 0 none) (some (0 + i0, .slice ba x.length bc))) = some (ba, x.length, bc) from by simp [valE, asSl]]
            simp only [mst_, mst5_]
            rw [if_neg (by simp [hasE]), ldr_all (n := 8) b1 rfl]
            simp only [mst_, mst5_]
            rw [show snapP s c = (fetchP x c, s) from by unfold snapP; rw [if_neg k7, q1]; simp [k9, k10, t1]]
            have hx : x.length ≤ 1024 := by
              have m1 : (c.other, l) ∈ s.snaps := getO_mem q1
              have m2 : (c.name, x) ∈ l := getO_mem t1
              exact ((ok.snaps _ m1).2.1 _ m2).2
            exact DoRes.tail (DoRes.same (fetch_spec (by omega) Y bc (s1.ext ((Ext.refl h2 (nx + 2)).le (by omega : nx + 2 ≤ nx + 42))) hx c x5 x6 da dc) (p.ext (x2.le (by omega : nx + 2 ≤ nx + 42)))) (x2.le (by omega)) (by omega) (by omega) b2 rfl p
end Go.Proofs.Ytncmdbpoceilgaa.T
