import Derived.Test.YtncmdbpoceilgaaP4
set_option linter.unusedVariables false
set_option linter.unusedSimpArgs false
/- Pools: what is done to an object. -/
namespace Go.Proofs.Ytncmdbpoceilgaa.T
open Go Go.RowKit Go.Proofs
set_option maxRecDepth 10000
variable {X : Nat → Prop}

theorem DoRes.same {h : AHeap} {nx S o k : Nat} {t : Tld} {s : Pl} {r : Option (AV × AHeap × Nat)} (w : ∃ row h' nx', r = some (.agg row, h', nx') ∧ Ext h nx h' nx' ∧ ToldR h' nx' (Old nx) t row) (p : PM X h nx S o k s) : DoRes X h nx S o k t s r := by
  obtain ⟨row, h', nx', e, x, q⟩ := w
  refine ⟨row, h', nx', o, e, q.go (Frm.refl (fun _ => False) h' nx') (fun _ _ q => q.elim) (fun i hi q => ?_), p.ext x, x.fr _, .inl rfl⟩
  have := p.lo
  unfold Old
  rcases q with q | q <;> omega
theorem PM.turnO {h h' : AHeap} {nx nx' S o k : Nat} {s : Pl} (p : PM X h nx S o k s) (f : Frm (fun i => i = o) h nx h' nx') {obj' : Objs} (m : MapM (RB h' nx' (Avd X S o k)) h' o obj') : PM X h' nx' S o k { s with obj := obj' } :=
  ⟨(f.2 S p.lS p.So).trans p.st, m, p.sn.mono (f.2 k p.lk (fun q => p.ok q.symm)) fun _ _ r => RM.go r f (fun _ _ q => .inl (.inr (.inl q))) fun _ _ q => q,
   by have := p.lS; have := f.1; omega, by have := p.lo; have := f.1; omega, by have := p.lk; have := f.1; omega, p.So, p.Sk, p.ok, fun i hi => by have := p.lX i hi; have := f.1; omega⟩
theorem Frm.toB {h h' : AHeap} {nx nx' S o k : Nat} (f : Frm (fun i => i = o) h nx h' nx') : Frm (Bst S o k) h nx h' nx' := f.more fun _ _ q => .inr (.inl q)

/-- An answer without data, and the objects are others. -/
theorem DoRes.objs {h h' : AHeap} {nx nx' S o k : Nat} {s : Pl} {e z : Int} (p : PM X h nx S o k s) (f : Frm (fun i => i = o) h nx h' nx') {obj' : Objs} (m : MapM (RB h' nx' (Avd X S o k)) h' o obj') {r : Option (AV × AHeap × Nat)}
    (hr : r = some (.agg [.int .i64 e, .bool false, .int .i64 z, .slice none 0 none, .slice none 0 none], h', nx')) : DoRes X h nx S o k ⟨e, z, [], []⟩ { s with obj := obj' } r :=
  ⟨_, h', nx', o, hr, ⟨_, _, rfl, Byt.none _ _ _ _ _, Txt.none _ _ _ _ _⟩, p.turnO f m, f.toB, .inl rfl⟩

theorem obj_j3 {n lf : Nat} (Y : YldF) {h : AHeap} {nx S o k px pr : Nat} {s : Pl} (p : PM X h nx S o k s) {c : Cmd} {x5 x6 : Int} {da : Option (Nat × Nat)} {dc : Option Nat} {l : List AV} (hx : h px = some ⟨cmdV c x5 x6 da dc, 8, true⟩) (hr : h pr = some ⟨l, 5, true⟩) (hl : l.length = 5)
    (po : pr ≠ o) {ya : Option (Nat × Nat)} (yc : Option Nat) {y : List Int} (hy : Byt .u8 h nx (Avd X S o k) (.slice ya y.length yc) y) :
    ∃ cs', F27_J3 (callP Try.prog keepT (n + 1)) Y lf (some (S, 0)) ya y.length yc (some (px, 0)) (some (pr, 0)) 0 h nx = some (.agg [.int .i64 0, .bool false, .int .i64 (y.length : Int), .slice none 0 none, .slice none 0 none],
      (h.put o (some ⟨cs', MB, true⟩)).put pr (some ⟨[.int .i64 0, .bool false, .int .i64 (y.length : Int), .slice none 0 none, .slice none 0 none], 5, true⟩), nx + 19) ∧ All2 (Ent (RB h nx (Avd X S o k))) (setO c.name y s.obj) cs' := by
  obtain ⟨cs, e1, e2⟩ := p.ob
  obtain ⟨cs', u1, u2⟩ := upd_ent (k := c.name) (x := y) e2 hy
  refine ⟨cs', ?_, u2⟩
  rw [F27_J3_eq, if_neg (by simp)]
  simp only [mst_, mst5_]
  rw [ld_at p.st (show _ = some (AV.mapv (some o)) from rfl)]
  simp only [mst_, mst5_]
  rw [ld_at hx (show _ = some (AV.str c.name) from rfl)]
  simp only [mst_, mst5_]
  rw [mapD_at e1]
  simp only [mst_, mst5_]
  rw [u1]
  simp only [mst_, mst5_]
  rw [size_spec]
  simp only [mst_, mst5_]
  rw [tail5l ((put_ne po).trans hr) hl]

theorem object_spec {n : Nat} (hn : 10 ≤ n) (Y : YldF) {h : AHeap} {nx S o k : Nat} {s : Pl} (p : PM X h nx S o k s) {a : Option (Nat × Nat)} (cc : Option Nat) {bs : List Int} (sx : Sl h nx a bs.length 1 (ints .u8 bs)) (hl : bs.length ≤ 1024) (c : Cmd) (x5 x6 : Int) {da : Option (Nat × Nat)} (dc : Option Nat)
    (sd : Sl h nx da c.data.length 1 (ints .u8 c.data)) (hk : c.kind = 2 ∨ c.kind = 3 ∨ c.kind = 4 ∨ c.kind = 5) :
    DoRes X h nx S o k (objectP s bs c).1 (objectP s bs c).2 (callP Try.prog keepT n Y 27 [.ptr (some (S, 0)), .slice a bs.length cc, .agg (cmdV c x5 x6 da dc)] h nx) := by
  obtain ⟨n, rfl⟩ : ∃ m, n = m + 9 := ⟨n - 9, by omega⟩
  unfold cmdV
  rw [F27_eq]
  dsimp only
  obtain ⟨h2, hh2⟩ : ∃ h2, h2 = AHeap.put (AHeap.put h nx (some ⟨[.int .i64 c.kind, .str c.name, .str c.other, .int .i64 c.off, .int .i64 c.count, .int .i64 x5, .int .i64 x6, .slice da c.data.length dc], 8, true⟩)) (nx + 1) (some ⟨[.int .i64 0, .bool false, .int .i64 0, .slice none 0 none, .slice none 0 none], 5, true⟩) := ⟨_, rfl⟩
  rw [← hh2]
  have b1 : h2 nx = some ⟨[.int .i64 c.kind, .str c.name, .str c.other, .int .i64 c.off, .int .i64 c.count, .int .i64 x5, .int .i64 x6, .slice da c.data.length dc], 8, true⟩ := by rw [hh2, put_ne (by omega), put_same]
  have b2 : h2 (nx + 1) = some ⟨[.int .i64 0, .bool false, .int .i64 0, .slice none 0 none, .slice none 0 none], 5, true⟩ := by rw [hh2, put_same]
  have x2 : Ext h nx h2 (nx + 2) := by rw [hh2]; exact ((Ext.refl h nx).put (m' := nx + 1) (by omega) (by omega)).put (by omega) (by omega)
  clear hh2
  have lo := p.lo
  rw [ld_at b1 (show _ = some (AV.int .i64 c.kind) from rfl)]
  simp only [mst_, mst5_]
  have no : ∀ (m0 : Nat) (e : Int), nx + 2 ≤ m0 → ∀ (z : Tld × Pl), z = (noT e, s) → DoRes X h nx S o k z.1 z.2 ((callP Try.prog keepT (n + 8) Y 23 [.int .i64 e] h2 m0).bind fun r5 => (asAgg 5 r5.1).bind fun d6 =>
      (asI .i64 (d6.getD 0 .bad)).bind fun n7 =>
      (asB (d6.getD 1 .bad)).bind fun t8 =>
      (asI .i64 (d6.getD 2 .bad)).bind fun n9 =>
      (asSl (d6.getD 3 .bad)).bind fun s10 =>
      (asSl (d6.getD 4 .bad)).bind fun s11 =>
      (stA r5.2.1 (nx + 1) 0 (.agg [(.int .i64 n7), (.bool t8), (.int .i64 n9), (.slice s10.1 s10.2.1 s10.2.2), (.slice s11.1 s11.2.1 s11.2.2)]) 5).bind fun b12 =>
      (ldR (AHeap.put r5.2.1 (nx + 1) (some b12)) (nx + 1) 0 5).bind fun l14 =>
      (asAgg 5 (AV.agg l14)).bind fun d15 =>
      (asI .i64 (d15.getD 0 .bad)).bind fun n16 =>
      (asB (d15.getD 1 .bad)).bind fun t17 =>
      (asI .i64 (d15.getD 2 .bad)).bind fun n18 =>
      (asSl (d15.getD 3 .bad)).bind fun s19 =>
      (asSl (d15.getD 4 .bad)).bind fun s20 =>
      some ((AV.agg [(.int .i64 n16), (.bool t17), (.int .i64 n18), (.slice s19.1 s19.2.1 s19.2.2), (.slice s20.1 s20.2.1 s20.2.2)]), AHeap.put r5.2.1 (nx + 1) (some b12), r5.2.2)) := fun m0 e hm z hz => by
    rw [tail5 (no_eq _ Y e h2 m0) (show (h2.put m0 _) (nx + 1) = _ from (put_ne (by omega)).trans b2) rfl, hz]
    exact DoRes.same ⟨_, _, _, rfl, (x2.put (by omega) (Nat.le_refl _)).put (by omega) (by omega) |>.le (by omega), ToldR.no _ _ _ _⟩ p
  by_cases k3 : c.kind = 3
  · rw [if_pos (by simpa using k3), ldr_all (n := 8) b1 rfl]
    simp only [mst_, mst5_]
    rw [show objectP s bs c = (fetchP bs c, s) from by simp [objectP, k3]]
    exact DoRes.tail (DoRes.same (fetch_spec (by omega) Y cc (sx.ext (x2.le (by omega : nx + 2 ≤ nx + 11))) hl c x5 x6 da dc) (p.ext (x2.le (by omega : nx + 2 ≤ nx + 11)))) (x2.le (by omega)) (by omega) (by omega) b2 rfl p
  · rw [if_neg (by simpa using k3)]
    by_cases k5 : c.kind = 5
    · rw [if_pos (by simpa using k5)]
      try simp only [mst_, mst5_]
      rw [ld_at ((x2.2 S p.lS).trans p.st) (show _ = some (AV.mapv (some o)) from rfl)]
      simp only [mst_, mst5_]
      rw [ld_at b1 (show _ = some (AV.str c.name) from rfl)]
      simp only [mst_, mst5_]
      obtain ⟨cs, e1, e2⟩ := p.ob
      obtain ⟨cs', u1, u2⟩ := del_ent (k := c.name) e2
      rw [mapD_at ((x2.2 o lo).trans e1)]
      simp only [mst_, mst5_]
      rw [u1]
      simp only [mst_, mst5_]
      rw [tail5l ((put_ne (by omega)).trans b2) rfl, show objectP s bs c = (⟨0, 0, [], []⟩, { s with obj := delO c.name s.obj }) from by simp [objectP, k3, k5, noT]]
      have f0 : Frm (fun i => i = o) h nx (h2.put o (some ⟨cs', MB, true⟩)) (nx + 2) := (x2.fr _).put (.inl rfl) (Nat.le_refl _)
      have f : Frm (fun i => i = o) h nx ((h2.put o (some ⟨cs', MB, true⟩)).put (nx + 1) (some ⟨[.int .i64 0, .bool false, .int .i64 0, .slice none 0 none, .slice none 0 none], 5, true⟩)) (nx + 18) :=
        f0.put (i := nx + 1) (.inr (by omega)) (by omega)
      exact DoRes.objs p f ⟨cs', by rw [put_ne (by omega), put_same], u2.mono fun x v ⟨u, q1, q2⟩ => ⟨u, q1, Byt.go q2 f (fun _ _ q => .inl (.inr (.inl q))) fun _ _ q => q⟩⟩ rfl
    · rw [if_neg (by simpa using k5)]
      -- behind the new bytes
      have fin : ∀ (lf : Nat) (v : AV) (y : List Int) (h3 : AHeap) (n3 : Nat), nx + 2 ≤ n3 → Ext h2 (nx + 2) h3 n3 → Byt .u8 h3 n3 (Old (nx + 2)) v y → ∀ z : Tld × Pl, z = (⟨0, y.length, [], []⟩, { s with obj := setO c.name y s.obj }) →
          ∃ ya yc, v = .slice ya y.length yc ∧ DoRes X h nx S o k z.1 z.2 (F27_J3 (callP Try.prog keepT (n + 8)) Y lf (some (S, 0)) ya y.length yc (some (nx, 0)) (some (nx + 1, 0)) 0 h3 n3) := fun lf v y h3 n3 hn3 x3 hy z hz => by
        obtain ⟨ya, yc, rfl, hy1, hy2⟩ := hy
        have x : Ext h nx h3 n3 := ⟨by omega, fun i hi => (x3.2 i (by omega)).trans (x2.2 i hi)⟩
        have p3 := p.ext x
        have lS := p.lS; have lk := p.lk
        have hyB : Byt .u8 h3 n3 (Avd X S o k) (.slice ya y.length yc) y := ⟨ya, yc, rfl, hy1, hy2.less fun i q => by
          unfold Old
          rcases q with q | q
          · unfold Bst at q; omega
          · have := p.lX i q; omega⟩
        obtain ⟨cs', g1, g2⟩ := obj_j3 (n := n + 7) (lf := lf) Y p3 (px := nx) (pr := nx + 1) ((x3.2 nx (by omega)).trans b1) ((x3.2 (nx + 1) (by omega)).trans b2) rfl (by omega) yc hyB
        refine ⟨ya, yc, rfl, ?_⟩
        rw [hz]
        have f0 : Frm (fun i => i = o) h nx (h3.put o (some ⟨cs', MB, true⟩)) n3 := (x.fr _).put (.inl rfl) (Nat.le_refl _)
        have f : Frm (fun i => i = o) h nx ((h3.put o (some ⟨cs', MB, true⟩)).put (nx + 1) (some ⟨[.int .i64 0, .bool false, .int .i64 (y.length : Int), .slice none 0 none, .slice none 0 none], 5, true⟩)) (n3 + 19) :=
          f0.put (i := nx + 1) (.inr (by omega)) (by omega)
        have f30 : Frm (fun i => i = o ∨ i = nx + 1) h3 n3 (h3.put o (some ⟨cs', MB, true⟩)) n3 := (Frm.refl _ h3 n3).put (.inl (.inl rfl)) (Nat.le_refl _)
        have f3 : Frm (fun i => i = o ∨ i = nx + 1) h3 n3 ((h3.put o (some ⟨cs', MB, true⟩)).put (nx + 1) (some ⟨[.int .i64 0, .bool false, .int .i64 (y.length : Int), .slice none 0 none, .slice none 0 none], 5, true⟩)) (n3 + 19) :=
          f30.put (i := nx + 1) (.inl (.inr rfl)) (by omega)
        refine DoRes.objs p f ⟨cs', by rw [put_ne (by omega), put_same], g2.mono fun w u ⟨u', q1, q2⟩ => ⟨u', q1, ?_⟩⟩ g1
        -- bytes do not lie in the result's cell
        obtain ⟨ba, bc, rfl, s1, s2⟩ := q2
        refine ⟨ba, bc, rfl, s1.fr (fun hn pp ep q => ?_) f3, s2⟩
        rcases q with q | q
        · exact s2 hn pp ep (.inl (.inr (.inl q)))
        · obtain ⟨pb, bb, t1, t2, t3, t4, _⟩ := s1.2 0 hn
          rw [t1] at ep; obtain rfl := Option.some.inj ep
          rw [q, (x3.2 (nx + 1) (by omega)).trans b2] at t3
          obtain rfl := Option.some.inj t3
          cases t4
      by_cases k2 : c.kind = 2
      · rw [if_pos (by simpa using k2), ld_at b1 (show _ = some (AV.slice da c.data.length dc) from rfl)]
        simp only [mst_, mst5_]
        by_cases q1 : c.data.length = 0
        · rw [if_pos (by rw [beq_iff_eq]; omega)]
          exact no _ 1 (by omega) _ (by simp [objectP, k2, q1])
        · rw [if_neg (by rw [beq_iff_eq]; omega)]
          by_cases q2 : c.data.length > 400
          · rw [if_pos (by simp; omega)]
            exact no _ 1 (by omega) _ (by unfold objectP; rw [if_neg k3, if_neg k5, if_pos k2, if_neg q1, if_pos q2])
          · rw [if_neg (by simp; omega), ld_at b1 (show _ = some (AV.int .i64 c.off) from rfl)]
            simp only [mst_, mst5_]
            by_cases q3 : c.off < 0
            · rw [if_pos (by simpa using q3)]
              exact no _ 2 (by omega) _ (by unfold objectP; rw [if_neg k3, if_neg k5, if_pos k2, if_neg q1, if_neg q2, if_pos q3])
            · rw [if_neg (by simpa using q3), ld_at b1 (show _ = some (AV.int .i64 c.off) from rfl)]
              simp only [mst_, mst5_]
              rw [wA (x := 1024 - ((c.data.length : Nat) : Int)) (by omega) (by omega)]
              by_cases q4 : c.off > 1024 - ((c.data.length : Nat) : Int)
              · rw [if_pos (by simpa using q4)]
                exact no _ 2 (by omega) _ (by unfold objectP; rw [if_neg k3, if_neg k5, if_pos k2, if_neg q1, if_neg q2, if_neg q3, if_pos q4])
              · rw [if_neg (by simpa using q4), F27_J1_eq]
                simp only [mst_, mst5_]
                rw [ld_at b1 (show _ = some (AV.int .i64 c.off) from rfl)]
                simp only [mst_, mst5_]
                rw [ld_at b1 (show _ = some (AV.slice da c.data.length dc) from rfl)]
                simp only [mst_, mst5_]
                have ho : c.off = ((c.off.toNat : Nat) : Int) := by omega
                obtain ⟨v, h3, n3, g1, g2, g3⟩ := write_spec (n + 7) Y cc dc (sx.ext (x2.le (by omega : nx + 2 ≤ nx + 33 + 12))) (sd.ext (x2.le (by omega : nx + 2 ≤ nx + 33 + 12))) (o := c.off.toNat) (by omega) (by omega) (by omega)
                rw [← ho] at g1
                rw [g1]
                obtain ⟨ya, yc, rfl, g4⟩ := fin (n + 8) v (writeP bs c.off.toNat c.data) h3 n3 (by have := g2.1; omega) ⟨by have := g2.1; omega, fun i hi => g2.2 i (by omega)⟩ (by
                  obtain ⟨va, vc, rfl, v1, v2⟩ := g3
                  exact ⟨va, vc, rfl, v1, v2.less fun i q => by unfold Old at *; omega⟩) _ rfl
                simp only [mst_, mst5_]
                rw [show objectP s bs c = (⟨0, (writeP bs c.off.toNat c.data).length, [], []⟩, { s with obj := setO c.name (writeP bs c.off.toNat c.data) s.obj }) from by unfold objectP; rw [if_neg k3, if_neg k5, if_pos k2, if_neg q1, if_neg q2, if_neg q3, if_neg q4]]
                exact g4
      · have k4 : c.kind = 4 := by omega
        rw [if_neg (by simpa using k2), if_pos (by simpa using k4), ld_at b1 (show _ = some (AV.int .i64 c.count) from rfl)]
        simp only [mst_, mst5_]
        by_cases q1 : c.count < 0
        · rw [if_pos (by simpa using q1)]
          exact no _ 2 (by omega) _ (by unfold objectP; rw [if_neg k3, if_neg k5, if_neg k2, if_pos q1])
        · rw [if_neg (by simpa using q1), ld_at b1 (show _ = some (AV.int .i64 c.count) from rfl)]
          simp only [mst_, mst5_]
          by_cases q2 : c.count > 1024
          · rw [if_pos (by simpa using q2)]
            exact no _ 2 (by omega) _ (by unfold objectP; rw [if_neg k3, if_neg k5, if_neg k2, if_neg q1, if_pos q2])
          · rw [if_neg (by simpa using q2), F27_J2_eq]
            simp only [mst_, mst5_]
            rw [ld_at b1 (show _ = some (AV.int .i64 c.count) from rfl)]
            simp only [mst_, mst5_]
            have ho : c.count = ((c.count.toNat : Nat) : Int) := by omega
            obtain ⟨v, h3, n3, g1, g2, g3⟩ := resize_spec (n + 7) Y cc (sx.ext (x2.le (by omega : nx + 2 ≤ nx + 21 + 10))) (k := c.count.toNat) (by omega)
            rw [← ho] at g1
            rw [g1]
            obtain ⟨ya, yc, rfl, g4⟩ := fin (n + 8) v (resizeP bs c.count.toNat) h3 n3 (by have := g2.1; omega) ⟨by have := g2.1; omega, fun i hi => g2.2 i (by omega)⟩ (by
              obtain ⟨va, vc, rfl, v1, v2⟩ := g3
              exact ⟨va, vc, rfl, v1, v2.less fun i q => by unfold Old at *; omega⟩) _ rfl
            simp only [mst_, mst5_]
            rw [show objectP s bs c = (⟨0, (resizeP bs c.count.toNat).length, [], []⟩, { s with obj := setO c.name (resizeP bs c.count.toNat) s.obj }) from by unfold objectP; rw [if_neg k3, if_neg k5, if_neg k2, if_neg q1, if_neg q2]]
            exact g4
end Go.Proofs.Ytncmdbpoceilgaa.T

/- Pools: snapshots. -/
namespace Go.Proofs.Ytncmdbpoceilgaa.T
open Go Go.RowKit Go.Proofs
set_option maxRecDepth 10000
variable {X : Nat → Prop}

theorem PM.turnK {h h' : AHeap} {nx nx' S o k : Nat} {s : Pl} (p : PM X h nx S o k s) (f : Frm (fun i => i = k) h nx h' nx') {snaps' : List (ByteArray × Objs)} (m : MapM (RM h' nx' (Avd X S o k)) h' k snaps') : PM X h' nx' S o k { s with snaps := snaps' } :=
  ⟨(f.2 S p.lS p.Sk).trans p.st, p.ob.mono (f.2 o p.lo p.ok) fun _ _ r => Byt.go r f (fun _ _ q => .inl (.inr (.inr q))) fun _ _ q => q, m,
   by have := p.lS; have := f.1; omega, by have := p.lo; have := f.1; omega, by have := p.lk; have := f.1; omega, p.So, p.Sk, p.ok, fun i hi => by have := p.lX i hi; have := f.1; omega⟩
theorem PM.turnS {h h' : AHeap} {nx nx' S o o' k : Nat} {s : Pl} (p : PM X h nx S o k s) (f : Frm (fun i => i = S) h nx h' nx') (e : h' S = some ⟨[.mapv (some o'), .mapv (some k), .slice none 0 none], 3, true⟩) (l1 : nx ≤ o') (l2 : o' < nx') {obj' : Objs} (m : MapM (RB h' nx' (Avd X S o' k)) h' o' obj') : PM X h' nx' S o' k { s with obj := obj' } := by
  have lS := p.lS; have lk := p.lk; have f1 := f.1
  exact ⟨e, m, p.sn.mono (f.2 k p.lk (fun q => p.Sk q.symm)) fun _ _ r => RM.go r f (fun _ _ q => .inl (.inl q)) fun i hi q => by
    rcases q with (q | q | q) | q
    · exact .inl (.inl q)
    · omega
    · exact .inl (.inr (.inr q))
    · exact .inr q, by omega, l2, by omega, by omega, p.Sk, by omega, fun i hi => by have := p.lX i hi; omega⟩
theorem DoRes.mk0 {h h' : AHeap} {nx nx' S o o' k : Nat} {s' : Pl} {e z : Int} (p : PM X h' nx' S o' k s') (f : Frm (Bst S o k) h nx h' nx') (ho : o' = o ∨ nx ≤ o') {r : Option (AV × AHeap × Nat)}
    (hr : r = some (.agg [.int .i64 e, .bool false, .int .i64 z, .slice none 0 none, .slice none 0 none], h', nx')) : DoRes X h nx S o k ⟨e, z, [], []⟩ s' r :=
  ⟨_, h', nx', o', hr, ⟨_, _, rfl, Byt.none _ _ _ _ _, Txt.none _ _ _ _ _⟩, p, f, ho⟩
theorem DoRes.no {n : Nat} (Y : YldF) {h h2 : AHeap} {nx m0 S o k : Nat} {s : Pl} (p : PM X h nx S o k s) (x2 : Ext h nx h2 m0) (hm : nx + 2 ≤ m0) {l : List AV} (b2 : h2 (nx + 1) = some ⟨l, 5, true⟩) (hl : l.length = 5) (e : Int) {z : Tld × Pl} (hz : z = (noT e, s)) :
    DoRes X h nx S o k z.1 z.2 ((callP Try.prog keepT (n + 1) Y 23 [.int .i64 e] h2 m0).bind fun r5 => (asAgg 5 r5.1).bind fun d6 =>
      (asI .i64 (d6.getD 0 .bad)).bind fun n7 =>
      (asB (d6.getD 1 .bad)).bind fun t8 =>
      (asI .i64 (d6.getD 2 .bad)).bind fun n9 =>
      (asSl (d6.getD 3 .bad)).bind fun s10 =>
      (asSl (d6.getD 4 .bad)).bind fun s11 =>
      (stA r5.2.1 (nx + 1) 0 (.agg [(.int .i64 n7), (.bool t8), (.int .i64 n9), (.slice s10.1 s10.2.1 s10.2.2), (.slice s11.1 s11.2.1 s11.2.2)]) 5).bind fun b12 =>
      (ldR (AHeap.put r5.2.1 (nx + 1) (some b12)) (nx + 1) 0 5).bind fun l14 =>
      (asAgg 5 (AV.agg l14)).bind fun d15 =>
      (asI .i64 (d15.getD 0 .bad)).bind fun n16 =>
      (asB (d15.getD 1 .bad)).bind fun t17 =>
      (asI .i64 (d15.getD 2 .bad)).bind fun n18 =>
      (asSl (d15.getD 3 .bad)).bind fun s19 =>
      (asSl (d15.getD 4 .bad)).bind fun s20 =>
      some ((AV.agg [(.int .i64 n16), (.bool t17), (.int .i64 n18), (.slice s19.1 s19.2.1 s19.2.2), (.slice s20.1 s20.2.1 s20.2.2)]), AHeap.put r5.2.1 (nx + 1) (some b12), r5.2.2)) := by
  rw [tail5 (no_eq _ Y e h2 m0) (show (h2.put m0 _) (nx + 1) = _ from (put_ne (by omega)).trans b2) hl, hz]
  refine DoRes.same ⟨_, _, _, rfl, ?_, ToldR.no _ _ _ _⟩ p
  have y1 := x2.put (i := m0) (b := some ⟨[.int .i64 e, .bool false, .int .i64 0, .slice none 0 none, .slice none 0 none], 5, true⟩) (by omega) (Nat.le_refl _)
  exact y1.put (i := nx + 1) (by omega) (by omega)
theorem clone33 (n : Nat) (Y : YldF) {h : AHeap} {nx o : Nat} {cs : List AV} (e : h o = some ⟨cs, MB, true⟩) : callP Try.prog keepT (n + 1) Y 33 [.mapv (some o)] h nx = some (.mapv (some nx), h.put nx (some ⟨cs, MB, true⟩), nx + 1) := by
  rw [F33_eq]
  show orcClone (some o) h nx = _
  unfold orcClone
  simp only
  rw [mapD_at e]; rfl

theorem snap_spec {n : Nat} (hn : 1020 ≤ n) (Y : YldF) {h : AHeap} {nx S o k : Nat} {s : Pl} (p : PM X h nx S o k s) (ok : s.Ok) (c : Cmd) (x5 x6 : Int) {da : Option (Nat × Nat)} (dc : Option Nat)
    (hs : c.other.size ≤ 1000) (hk : c.kind = 7 ∨ c.kind = 8 ∨ c.kind = 9 ∨ c.kind = 10) :
    DoRes X h nx S o k (snapP s c).1 (snapP s c).2 (callP Try.prog keepT n Y 26 [.ptr (some (S, 0)), .agg (cmdV c x5 x6 da dc)] h nx) := by
  obtain ⟨n, rfl⟩ : ∃ m, n = m + 9 := ⟨n - 9, by omega⟩
  unfold cmdV
  rw [F26_eq]
  dsimp only
  obtain ⟨h2, hh2⟩ : ∃ h2, h2 = AHeap.put (AHeap.put h nx (some ⟨[.int .i64 c.kind, .str c.name, .str c.other, .int .i64 c.off, .int .i64 c.count, .int .i64 x5, .int .i64 x6, .slice da c.data.length dc], 8, true⟩)) (nx + 1) (some ⟨[.int .i64 0, .bool false, .int .i64 0, .slice none 0 none, .slice none 0 none], 5, true⟩) := ⟨_, rfl⟩
  rw [← hh2]
  have b1 : h2 nx = some ⟨[.int .i64 c.kind, .str c.name, .str c.other, .int .i64 c.off, .int .i64 c.count, .int .i64 x5, .int .i64 x6, .slice da c.data.length dc], 8, true⟩ := by rw [hh2, put_ne (by omega), put_same]
  have b2 : h2 (nx + 1) = some ⟨[.int .i64 0, .bool false, .int .i64 0, .slice none 0 none, .slice none 0 none], 5, true⟩ := by rw [hh2, put_same]
  have x2 : Ext h nx h2 (nx + 2) := by rw [hh2]; exact ((Ext.refl h nx).put (m' := nx + 1) (by omega) (by omega)).put (by omega) (by omega)
  clear hh2
  have lS := p.lS; have lo := p.lo; have lk := p.lk
  have So := p.So; have Sk := p.Sk; have okne := p.ok
  have p2 := p.ext x2
  rw [ld_at b1 (show _ = some (AV.int .i64 c.kind) from rfl)]
  simp only [mst_, mst5_]
  by_cases k7 : c.kind = 7
  · rw [if_pos (by simpa using k7), ld_at p2.st (show _ = some (AV.mapv (some k)) from rfl)]
    simp only [mst_, mst5_]
    rw [ld_at b1 (show _ = some (AV.str c.other) from rfl)]
    simp only [mst_, mst5_]
    obtain ⟨h3, n3, r1, r2⟩ := room32 (n := n + 8) (by omega) Y (h := h2) (nx := nx + 13) (o := k) (by omega) (p.ext (x2.le (by omega : nx + 2 ≤ nx + 13))).sn hs 3
    rw [show ((3 : Nat) : Int) = 3 from rfl] at r1
    rw [r1]
    simp only [mst_, mst5_]
    have x3 : Ext h nx h3 n3 := ⟨by have := r2.1; omega, fun i hi => (r2.2 i (by omega)).trans (x2.2 i hi)⟩
    have hn3 : nx + 13 ≤ n3 := r2.1
    have p3 := p.ext x3
    by_cases e0 : roomP s.snaps c.other 3 = 0
    · rw [if_pos (by rw [e0]; rfl)]
      try simp only [mst_, mst5_]
      rw [ld_at p3.st (show _ = some (AV.mapv (some k)) from rfl)]
      simp only [mst_, mst5_]
      rw [ld_at ((r2.2 nx (by omega)).trans b1) (show _ = some (AV.str c.other) from rfl)]
      simp only [mst_, mst5_]
      rw [ld_at p3.st (show _ = some (AV.mapv (some o)) from rfl)]
      simp only [mst_, mst5_]
      obtain ⟨cs, e1, e2⟩ := p3.ob
      rw [clone33 (n + 7) Y e1]
      simp only [mst_, mst5_]
      obtain ⟨ds, d1, d2⟩ := p3.sn
      have x4 : Ext h3 n3 (h3.put (n3 + 14) (some ⟨cs, MB, true⟩)) (n3 + 15) := (Ext.refl h3 n3).put (by omega) (by omega)
      have p4 := p3.ext x4
      obtain ⟨ds', u1, u2⟩ := upd_ent (R := RM (h3.put (n3 + 14) (some ⟨cs, MB, true⟩)) (n3 + 15) (Avd X S o k)) (k := c.other) (x := s.obj) (v := .mapv (some (n3 + 14))) (d2.mono fun _ _ ⟨u, q1, q2⟩ => ⟨u, q1, RM.go q2 (x4.fr fun _ => False) (fun _ _ q => q.elim) fun _ _ q => q⟩)
        ⟨n3 + 14, rfl, by omega, by
          rintro (q | q)
          · unfold Bst at q; omega
          · have := p3.lX _ q; omega, cs, put_same _ _ _, e2.mono fun _ _ ⟨u, q1, q2⟩ => ⟨u, q1, Byt.go q2 (x4.fr fun _ => False) (fun _ _ q => q.elim) fun _ _ q => q⟩⟩
      rw [mapD_at ((x4.2 k (by omega)).trans d1)]
      simp only [mst_, mst5_]
      rw [u1]
      simp only [mst_, mst5_]
      rw [ifKept_pos (by
        refine ⟨fun i hi => ?_, fun i hi => ?_, trivial⟩
        · have : i = S := by simpa using hi
          subst this; exact x4.2 _ (by omega)
        · have : i = nx := by simpa using hi
          subst this; exact x4.2 _ (by omega))]
      have hb : ((h3.put (n3 + 14) (some ⟨cs, MB, true⟩)).put k (some ⟨ds', MB, true⟩)) (nx + 1) = some ⟨[.int .i64 0, .bool false, .int .i64 0, .slice none 0 none, .slice none 0 none], 5, true⟩ := by
        rw [put_ne (by omega), put_ne (by omega)]; exact (r2.2 _ (by omega)).trans b2
      rw [tail5 (no_eq _ Y _ _ _) (show ((AHeap.put _ _ _).put _ _) (nx + 1) = _ from (put_ne (by omega)).trans hb) rfl]
      rw [show snapP s c = (noT (roomP s.snaps c.other 3), { s with snaps := setO c.other s.obj s.snaps }) from by unfold snapP; rw [if_pos k7]; simp [e0]]
      have f0 : Frm (fun i => i = k) h nx ((h3.put (n3 + 14) (some ⟨cs, MB, true⟩)).put k (some ⟨ds', MB, true⟩)) (n3 + 15) := ((x3.trans (x4.from (Nat.le_refl _))).fr _).put (.inl rfl) (by omega)
      have f1 := f0.put (i := n3 + 15 + 3) (b := some ⟨[.int .i64 (roomP s.snaps c.other 3), .bool false, .int .i64 0, .slice none 0 none, .slice none 0 none], 5, true⟩) (m := n3 + 15 + 3) (.inr (by omega)) (by omega)
      have f2 := f1.put (i := nx + 1) (b := some ⟨[.int .i64 (roomP s.snaps c.other 3), .bool false, .int .i64 0, .slice none 0 none, .slice none 0 none], 5, true⟩) (m := n3 + 15 + 3 + 4) (.inr (by omega)) (by omega)
      have g : Frm (fun i => i = k ∨ i = nx + 1) (h3.put (n3 + 14) (some ⟨cs, MB, true⟩)) (n3 + 15) ((((h3.put (n3 + 14) (some ⟨cs, MB, true⟩)).put k (some ⟨ds', MB, true⟩)).put (n3 + 15 + 3) (some ⟨[.int .i64 (roomP s.snaps c.other 3), .bool false, .int .i64 0, .slice none 0 none, .slice none 0 none], 5, true⟩)).put (nx + 1) (some ⟨[.int .i64 (roomP s.snaps c.other 3), .bool false, .int .i64 0, .slice none 0 none, .slice none 0 none], 5, true⟩)) (n3 + 15 + 3 + 4) :=
        ⟨by omega, fun i hi hd => by rw [put_ne (by omega), put_ne (by omega), put_ne (by omega)]⟩
      have hbx : (h3.put (n3 + 14) (some ⟨cs, MB, true⟩)) (nx + 1) = some ⟨[.int .i64 0, .bool false, .int .i64 0, .slice none 0 none, .slice none 0 none], 5, true⟩ := by
        rw [put_ne (by omega)]; exact (r2.2 _ (by omega)).trans b2
      have hBy : ∀ bs v, RB (h3.put (n3 + 14) (some ⟨cs, MB, true⟩)) (n3 + 15) (Avd X S o k) bs v → RB _ (n3 + 15 + 3 + 4) (Avd X S o k) bs v := fun bs v ⟨a, cc, e, s1, s2⟩ => ⟨a, cc, e, s1.fr (fun hn pp ep q => by
        rcases q with q | q
        · exact s2 hn pp ep (.inl (.inr (.inr q)))
        · obtain ⟨pb, bb, t1, t2, t3, t4, _⟩ := s1.2 0 hn
          rw [t1] at ep; obtain rfl := Option.some.inj ep
          rw [q, hbx] at t3
          obtain rfl := Option.some.inj t3
          cases t4) g, s2⟩
      refine DoRes.mk0 (p.turnK f2 ⟨ds', by rw [put_ne (by omega), put_ne (by omega), put_same], u2.mono fun w u ⟨u', q1, j, j1, j2, j3, j4⟩ => ⟨u', q1, j, j1, by omega, j3, j4.mono (g.2 j j2 (fun q => ?_)) hBy⟩⟩) (f2.more fun _ _ q => .inr (.inr q)) (.inl rfl) rfl
      rcases q with q | q
      · exact j3 (.inl (.inr (.inr q)))
      · obtain ⟨cs5, m1, _⟩ := j4
        rw [q, hbx] at m1
        exact absurd (congrArg (fun b => b.map ABlk.es) m1) (by simp; decide)
    · rw [if_neg (by simpa using e0)]
      exact DoRes.no Y p (x3.le (by omega)) (by omega) ((r2.2 _ (by omega)).trans b2) rfl _ (by unfold snapP; rw [if_pos k7]; simp [e0])
  · rw [if_neg (by simpa using k7)]
    try simp only [mst_, mst5_]
    rw [ld_at p2.st (show _ = some (AV.mapv (some k)) from rfl)]
    simp only [mst_, mst5_]
    rw [ld_at b1 (show _ = some (AV.str c.other) from rfl)]
    simp only [mst_, mst5_]
    obtain ⟨ds, d1, d2⟩ := p2.sn
    rw [mapO_at d1]
    simp only [mst_, mst5_]
    rcases find_ent c.other d2 0 with ⟨q1, q2, _⟩ | ⟨l, j0, v, q1, q2, ⟨j, rfl, j2, j3, j4⟩, _, q4⟩
    · rw [q2]
      simp only [mst_, mst5_]
      rw [show asMp (valE (.mapv none) none) = some none from rfl]
      simp only [mst_, mst5_]
      rw [if_pos (by rfl)]
      exact DoRes.no Y p (x2.le (by omega)) (by omega) b2 rfl _ (by unfold snapP; rw [if_neg k7, q1])
    · rw [q2]
      simp only [mst_, mst5_]
      rw [show asMp (valE (.mapv none) (some (0 + j0, .mapv (some j)))) = some (some j) from by simp [valE, asMp]]
      simp only [mst_, mst5_]
      rw [if_neg (by simp [hasE]), ld_at b1 (show _ = some (AV.int .i64 c.kind) from rfl)]
      simp only [mst_, mst5_]
      obtain ⟨cs, e1, e2⟩ := j4
      by_cases k9 : c.kind = 9
      · rw [if_pos (by simpa using k9), clone33 (n + 7) Y e1]
        simp only [mst_, mst5_]
        have x4 : Ext h nx (h2.put (nx + 29) (some ⟨cs, MB, true⟩)) (nx + 30) := x2.put (by omega) (by omega)
        rw [st_to (cs' := [.mapv (some (nx + 29)), .mapv (some k), .slice none 0 none]) ((x4.2 S lS).trans p.st) rfl (by simp) rfl]
        rw [tail5l (show (AHeap.put _ S _) (nx + 1) = _ from (put_ne (by omega)).trans ((put_ne (by omega)).trans b2)) rfl]
        rw [show snapP s c = (⟨0, 0, [], []⟩, { s with obj := l }) from by unfold snapP; rw [if_neg k7, q1]; simp [k9, noT]]
        have f0 : Frm (fun i => i = S) h nx ((h2.put (nx + 29) (some ⟨cs, MB, true⟩)).put S (some ⟨[.mapv (some (nx + 29)), .mapv (some k), .slice none 0 none], 3, true⟩)) (nx + 30) := (x4.fr _).put (.inl rfl) (by omega)
        have f1 := f0.put (i := nx + 1) (b := some ⟨[.int .i64 0, .bool false, .int .i64 0, .slice none 0 none, .slice none 0 none], 5, true⟩) (m := nx + 29 + 1 + 2) (.inr (by omega)) (by omega)
        have g : Frm (fun i => i = S ∨ i = nx + 1) h2 (nx + 2) (((h2.put (nx + 29) (some ⟨cs, MB, true⟩)).put S (some ⟨[.mapv (some (nx + 29)), .mapv (some k), .slice none 0 none], 3, true⟩)).put (nx + 1) (some ⟨[.int .i64 0, .bool false, .int .i64 0, .slice none 0 none, .slice none 0 none], 5, true⟩)) (nx + 29 + 1 + 2) :=
          ⟨by omega, fun i hi hd => by rw [put_ne (by omega), put_ne (by omega), put_ne (by omega)]⟩
        refine DoRes.mk0 (p.turnS f1 (by rw [put_ne (by omega), put_same]) (by omega) (by omega) ⟨cs, by rw [put_ne (by omega), put_ne (by omega), put_same], e2.mono fun w u ⟨u', t1, ba, bc, t2, s1, s2⟩ => ⟨u', t1, ba, bc, t2, s1.fr (fun hn pp ep q => ?_) g, s2.go s1 fun i hi q => ?_⟩⟩) (f1.more fun _ _ q => .inl q) (.inr (by omega)) rfl
        · rcases q with q | q
          · exact s2 hn pp ep (.inl (.inl q))
          · obtain ⟨pb, bb, t1, t2, t3, t4, _⟩ := s1.2 0 hn
            rw [t1] at ep; obtain rfl := Option.some.inj ep
            rw [q, b2] at t3
            obtain rfl := Option.some.inj t3
            cases t4
        · rcases q with (q | q | q) | q
          · exact .inl (.inl q)
          · omega
          · exact .inl (.inr (.inr q))
          · exact .inr q
      · rw [if_neg (by simpa using k9)]
        by_cases k10 : c.kind = 10
        · rw [if_pos (by simpa using k10)]
          try simp only [mst_, mst5_]
          rw [ld_at p2.st (show _ = some (AV.mapv (some k)) from rfl)]
          simp only [mst_, mst5_]
          rw [ld_at b1 (show _ = some (AV.str c.other) from rfl)]
          simp only [mst_, mst5_]
          rw [mapD_at d1]
          simp only [mst_, mst5_]
          obtain ⟨ds', u1, u2⟩ := del_ent (k := c.other) d2
          rw [u1]
          simp only [mst_, mst5_]
          rw [tail5l (show (AHeap.put _ k _) (nx + 1) = _ from (put_ne (by omega)).trans b2) rfl]
          rw [show snapP s c = (⟨0, 0, [], []⟩, { s with snaps := delO c.other s.snaps }) from by unfold snapP; rw [if_neg k7, q1]; simp [k10, noT]]
          have f0 : Frm (fun i => i = k) h nx (h2.put k (some ⟨ds', MB, true⟩)) (nx + 2) := (x2.fr _).put (.inl rfl) (Nat.le_refl _)
          have f1 := f0.put (i := nx + 1) (b := some ⟨[.int .i64 0, .bool false, .int .i64 0, .slice none 0 none, .slice none 0 none], 5, true⟩) (m := nx + 34) (.inr (by omega)) (by omega)
          have g : Frm (fun i => i = k ∨ i = nx + 1) h2 (nx + 2) ((h2.put k (some ⟨ds', MB, true⟩)).put (nx + 1) (some ⟨[.int .i64 0, .bool false, .int .i64 0, .slice none 0 none, .slice none 0 none], 5, true⟩)) (nx + 34) :=
            ⟨by omega, fun i hi hd => by rw [put_ne (by omega), put_ne (by omega)]⟩
          have hBy : ∀ bs v, RB h2 (nx + 2) (Avd X S o k) bs v → RB ((h2.put k (some ⟨ds', MB, true⟩)).put (nx + 1) (some ⟨[.int .i64 0, .bool false, .int .i64 0, .slice none 0 none, .slice none 0 none], 5, true⟩)) (nx + 34) (Avd X S o k) bs v := fun bs v ⟨a, cc, e, s1, s2⟩ => ⟨a, cc, e, s1.fr (fun hn pp ep q => by
            rcases q with q | q
            · exact s2 hn pp ep (.inl (.inr (.inr q)))
            · obtain ⟨pb, bb, t1, t2, t3, t4, _⟩ := s1.2 0 hn
              rw [t1] at ep; obtain rfl := Option.some.inj ep
              rw [q, b2] at t3
              obtain rfl := Option.some.inj t3
              cases t4) g, s2⟩
          refine DoRes.mk0 (p.turnK f1 ⟨ds', by rw [put_ne (by omega), put_same], u2.mono fun w u ⟨u', t1, i, i1, i2, i3, i4⟩ => ⟨u', t1, i, i1, by omega, i3, i4.mono (g.2 i i2 (fun q => ?_)) hBy⟩⟩) (f1.more fun _ _ q => .inr (.inr q)) (.inl rfl) rfl
          rcases q with q | q
          · exact i3 (.inl (.inr (.inr q)))
          · obtain ⟨cs5, m1, _⟩ := i4
            rw [q, b2] at m1
            exact absurd (congrArg (fun b => b.map ABlk.es) m1) (by simp; decide)
        · have k8 : c.kind = 8 := by omega
          rw [if_neg (by simpa using k10), if_pos (by simpa using k8), ld_at b1 (show _ = some (AV.str c.name) from rfl)]
          simp only [mst_, mst5_]
          rw [mapO_at e1]
          simp only [mst_, mst5_]
          rcases find_ent c.name e2 0 with ⟨t1, t2, _⟩ | ⟨x, i0, v, t1, t2, ⟨ba, bc, rfl, s1, s2⟩, _, _⟩
          · rw [t2]
            simp only [mst_, mst5_]
            rw [show asSl (valE (.slice none 0 none) none) = some (none, 0, none) from rfl]
            simp only [mst_, mst5_]
            rw [if_pos (by rfl)]
            exact DoRes.no Y p (x2.le (by omega)) (by omega) b2 rfl _ (by unfold snapP; rw [if_neg k7, q1]; simp [k9, k10, t1])
          · rw [t2]
            simp only [mst_, mst5_]
            rw [show asSl (valE (.slice none 0 none) (some (0 + i0, .slice ba x.length bc))) = some (ba, x.length, bc) from by simp [valE, asSl]]
            simp only [mst_, mst5_]
            rw [if_neg (by simp [hasE]), ldr_all (n := 8) b1 rfl]
            simp only [mst_, mst5_]
            rw [show snapP s c = (fetchP x c, s) from by unfold snapP; rw [if_neg k7, q1]; simp [k9, k10, t1]]
            have hx : x.length ≤ 1024 := by
              have m1 : (c.other, l) ∈ s.snaps := getO_mem q1
              have m2 : (c.name, x) ∈ l := getO_mem t1
              exact ((ok.snaps _ m1).2.1 _ m2).2
            exact DoRes.tail (DoRes.same (fetch_spec (by omega) Y bc (s1.ext ((Ext.refl h2 (nx + 2)).le (by omega : nx + 2 ≤ nx + 42))) hx c x5 x6 da dc) (p.ext (x2.le (by omega : nx + 2 ≤ nx + 42)))) (x2.le (by omega)) (by omega) (by omega) b2 rfl p
end Go.Proofs.Ytncmdbpoceilgaa.T

/- Pools: a command. Printed by mk7.py: two branches of the print stand in it. -/
namespace Go.Proofs.Ytncmdbpoceilgaa.T
open Go Go.RowKit Go.Proofs
set_option maxRecDepth 10000
variable {X : Nat → Prop}

theorem keys_res {β : Type} {R : β → AV → Prop} {h : AHeap} {nx o : Nat} {l : List (ByteArray × β)} (m : MapM R h o l) (hs : ∀ x ∈ l, x.1.size ≤ 1000) (hl : l.length ≤ 1000) :
    ∃ v h' nx', orcKeys (some o) h nx = some (v, h', nx') ∧ Ext h nx h' nx' ∧ Txt h' nx' (Old nx) v (sortS (l.map (·.1))) := by
  obtain ⟨cs, e1, e2⟩ := m
  unfold orcKeys
  simp only
  rw [mapD_at e1, some_bind, keys_ent e2, some_bind, if_pos (by
    rw [Bool.and_eq_true, List.all_eq_true, Nat.ble_eq, List.length_map]
    refine ⟨fun k hk => ?_, by omega⟩
    obtain ⟨x, hx, rfl⟩ := List.mem_map.1 hk
    rw [Nat.ble_eq]; have := hs x hx; omega)]
  by_cases h0 : (l.map (·.1)).isEmpty = true
  · rw [if_pos h0]
    have : l.map (·.1) = [] := List.isEmpty_iff.1 h0
    rw [this, show sortS [] = [] from by simp [sortS]]
    exact ⟨_, _, _, rfl, Ext.refl h nx, Txt.none _ _ _ _ _⟩
  · rw [if_neg h0]
    have hlen : (l.map (·.1)).length = (sortS (l.map (·.1))).length := (sortS_len _).symm
    rw [hlen]
    refine ⟨_, _, nx + 1, rfl, (Ext.refl h nx).put (by omega) (by omega), _, _, rfl, ⟨by simp, fun j hj => ⟨(nx, 0), _, rfl, by simp, put_same _ _ _, rfl, by simp, fun q hq => by simp⟩⟩, fun hn p ep q => ?_⟩
    obtain rfl := Option.some.inj ep
    unfold Old at q; simp at q

theorem do_spec {n : Nat} (hn : 1030 ≤ n) (Y : YldF) {h : AHeap} {nx S o k : Nat} {s : Pl} (p : PM X h nx S o k s) (ok : s.Ok) (c : Cmd) (x5 x6 : Int) {da : Option (Nat × Nat)} (dc : Option Nat)
    (sd : Sl h nx da c.data.length 1 (ints .u8 c.data)) (hs1 : c.name.size ≤ 1000) (hs : c.other.size ≤ 1000) :
    DoRes X h nx S o k (stepP s c).1 (stepP s c).2 (callP Try.prog keepT n Y 21 [.ptr (some (S, 0)), .agg (cmdV c x5 x6 da dc)] h nx) := by
  obtain ⟨n, rfl⟩ : ∃ m, n = m + 9 := ⟨n - 9, by omega⟩
  unfold cmdV
  rw [F21_eq]
  dsimp only
  obtain ⟨h2, hh2⟩ : ∃ h2, h2 = AHeap.put (AHeap.put h nx (some ⟨[.int .i64 c.kind, .str c.name, .str c.other, .int .i64 c.off, .int .i64 c.count, .int .i64 x5, .int .i64 x6, .slice da c.data.length dc], 8, true⟩)) (nx + 1) (some ⟨[.int .i64 0, .bool false, .int .i64 0, .slice none 0 none, .slice none 0 none], 5, true⟩) := ⟨_, rfl⟩
  rw [← hh2]
  have b1 : h2 nx = some ⟨[.int .i64 c.kind, .str c.name, .str c.other, .int .i64 c.off, .int .i64 c.count, .int .i64 x5, .int .i64 x6, .slice da c.data.length dc], 8, true⟩ := by rw [hh2, put_ne (by omega), put_same]
  have b2 : h2 (nx + 1) = some ⟨[.int .i64 0, .bool false, .int .i64 0, .slice none 0 none, .slice none 0 none], 5, true⟩ := by rw [hh2, put_same]
  have x2 : Ext h nx h2 (nx + 2) := by rw [hh2]; exact ((Ext.refl h nx).put (m' := nx + 1) (by omega) (by omega)).put (by omega) (by omega)
  clear hh2
  have lS := p.lS; have lo := p.lo; have lk := p.lk
  have p2 := p.ext x2
  -- snapshots
  have snp : ∀ m0, nx + 2 ≤ m0 → (c.kind = 7 ∨ c.kind = 8 ∨ c.kind = 9 ∨ c.kind = 10) → DoRes X h nx S o k (stepP s c).1 (stepP s c).2
      ((ldR h2 nx 0 8).bind fun l77 =>
      (asAgg 8 (AV.agg l77)).bind fun d78 =>
      (asI .i64 (d78.getD 0 .bad)).bind fun n79 =>
      (asStr (d78.getD 1 .bad)).bind fun s80 =>
      (asStr (d78.getD 2 .bad)).bind fun s81 =>
      (asI .i64 (d78.getD 3 .bad)).bind fun n82 =>
      (asI .i64 (d78.getD 4 .bad)).bind fun n83 =>
      (asI .i64 (d78.getD 5 .bad)).bind fun n84 =>
      (asI .i64 (d78.getD 6 .bad)).bind fun n85 =>
      (asSl (d78.getD 7 .bad)).bind fun s86 =>
      ((callP Try.prog keepT (n + 8)) Y 26 [(.ptr (some (S, 0))), (.agg [(.int .i64 n79), (.str s80), (.str s81), (.int .i64 n82), (.int .i64 n83), (.int .i64 n84), (.int .i64 n85), (.slice s86.1 s86.2.1 s86.2.2)])] h2 m0).bind fun r87 =>
      (asAgg 5 r87.1).bind fun d88 =>
      (asI .i64 (d88.getD 0 .bad)).bind fun n89 =>
      (asB (d88.getD 1 .bad)).bind fun t90 =>
      (asI .i64 (d88.getD 2 .bad)).bind fun n91 =>
      (asSl (d88.getD 3 .bad)).bind fun s92 =>
      (asSl (d88.getD 4 .bad)).bind fun s93 =>
      (stA r87.2.1 (nx + 1) 0 (.agg [(.int .i64 n89), (.bool t90), (.int .i64 n91), (.slice s92.1 s92.2.1 s92.2.2), (.slice s93.1 s93.2.1 s93.2.2)]) 5).bind fun b94 =>
      (ldR (AHeap.put r87.2.1 (nx + 1) (some b94)) (nx + 1) 0 5).bind fun l96 =>
      (asAgg 5 (AV.agg l96)).bind fun d97 =>
      (asI .i64 (d97.getD 0 .bad)).bind fun n98 =>
      (asB (d97.getD 1 .bad)).bind fun t99 =>
      (asI .i64 (d97.getD 2 .bad)).bind fun n100 =>
      (asSl (d97.getD 3 .bad)).bind fun s101 =>
      (asSl (d97.getD 4 .bad)).bind fun s102 =>
      some ((AV.agg [(.int .i64 n98), (.bool t99), (.int .i64 n100), (.slice s101.1 s101.2.1 s101.2.2), (.slice s102.1 s102.2.1 s102.2.2)]), (AHeap.put r87.2.1 (nx + 1) (some b94)), r87.2.2)) := fun m0 hm hk => by
    rw [show stepP s c = snapP s c from by unfold stepP; rw [if_neg (by omega), if_neg (by omega), if_neg (by omega), if_pos hk]]
    rw [ldr_all (n := 8) b1 rfl]
    simp only [mst_, mst5_]
    exact DoRes.tail (snap_spec (by omega) Y (p.ext (x2.le hm)) ok c x5 x6 dc hs hk) (x2.le hm) (by omega) (by omega) b2 rfl p
  -- objects
  have obj : ∀ m0 m1, nx + 2 ≤ m0 → nx + 2 ≤ m1 → (c.kind = 2 ∨ c.kind = 3 ∨ c.kind = 4 ∨ c.kind = 5) → DoRes X h nx S o k (stepP s c).1 (stepP s c).2
      ((some (S, 0)).bind fun p103 =>
      (ldA h2 p103.1 p103.2).bind fun v104 =>
      (asMp v104).bind fun m105 =>
      (ldA h2 nx 1).bind fun v106 =>
      (asStr v106).bind fun s107 =>
      (mapO h2 m105).bind fun es108 =>
      (findE s107 es108 0).bind fun o109 =>
      (asSl (valE (.slice none 0 none) o109)).bind fun s110 =>
      if (!(hasE o109)) = true then
      (((callP Try.prog keepT (n + 8)) Y 23 [(.int .i64 6)] h2 m0).bind fun r111 =>
      (asAgg 5 r111.1).bind fun d112 =>
      (asI .i64 (d112.getD 0 .bad)).bind fun n113 =>
      (asB (d112.getD 1 .bad)).bind fun t114 =>
      (asI .i64 (d112.getD 2 .bad)).bind fun n115 =>
      (asSl (d112.getD 3 .bad)).bind fun s116 =>
      (asSl (d112.getD 4 .bad)).bind fun s117 =>
      (stA r111.2.1 (nx + 1) 0 (.agg [(.int .i64 n113), (.bool t114), (.int .i64 n115), (.slice s116.1 s116.2.1 s116.2.2), (.slice s117.1 s117.2.1 s117.2.2)]) 5).bind fun b118 =>
      (ldR (AHeap.put r111.2.1 (nx + 1) (some b118)) (nx + 1) 0 5).bind fun l120 =>
      (asAgg 5 (AV.agg l120)).bind fun d121 =>
      (asI .i64 (d121.getD 0 .bad)).bind fun n122 =>
      (asB (d121.getD 1 .bad)).bind fun t123 =>
      (asI .i64 (d121.getD 2 .bad)).bind fun n124 =>
      (asSl (d121.getD 3 .bad)).bind fun s125 =>
      (asSl (d121.getD 4 .bad)).bind fun s126 =>
      some ((AV.agg [(.int .i64 n122), (.bool t123), (.int .i64 n124), (.slice s125.1 s125.2.1 s125.2.2), (.slice s126.1 s126.2.1 s126.2.2)]), (AHeap.put r111.2.1 (nx + 1) (some b118)), r111.2.2))
      else
      ((ldR h2 nx 0 8).bind fun l127 =>
      (asAgg 8 (AV.agg l127)).bind fun d128 =>
      (asI .i64 (d128.getD 0 .bad)).bind fun n129 =>
      (asStr (d128.getD 1 .bad)).bind fun s130 =>
      (asStr (d128.getD 2 .bad)).bind fun s131 =>
      (asI .i64 (d128.getD 3 .bad)).bind fun n132 =>
      (asI .i64 (d128.getD 4 .bad)).bind fun n133 =>
      (asI .i64 (d128.getD 5 .bad)).bind fun n134 =>
      (asI .i64 (d128.getD 6 .bad)).bind fun n135 =>
      (asSl (d128.getD 7 .bad)).bind fun s136 =>
      ((callP Try.prog keepT (n + 8)) Y 27 [(.ptr (some (S, 0))), (.slice s110.1 s110.2.1 s110.2.2), (.agg [(.int .i64 n129), (.str s130), (.str s131), (.int .i64 n132), (.int .i64 n133), (.int .i64 n134), (.int .i64 n135), (.slice s136.1 s136.2.1 s136.2.2)])] h2 m1).bind fun r137 =>
      (asAgg 5 r137.1).bind fun d138 =>
      (asI .i64 (d138.getD 0 .bad)).bind fun n139 =>
      (asB (d138.getD 1 .bad)).bind fun t140 =>
      (asI .i64 (d138.getD 2 .bad)).bind fun n141 =>
      (asSl (d138.getD 3 .bad)).bind fun s142 =>
      (asSl (d138.getD 4 .bad)).bind fun s143 =>
      (stA r137.2.1 (nx + 1) 0 (.agg [(.int .i64 n139), (.bool t140), (.int .i64 n141), (.slice s142.1 s142.2.1 s142.2.2), (.slice s143.1 s143.2.1 s143.2.2)]) 5).bind fun b144 =>
      (ldR (AHeap.put r137.2.1 (nx + 1) (some b144)) (nx + 1) 0 5).bind fun l146 =>
      (asAgg 5 (AV.agg l146)).bind fun d147 =>
      (asI .i64 (d147.getD 0 .bad)).bind fun n148 =>
      (asB (d147.getD 1 .bad)).bind fun t149 =>
      (asI .i64 (d147.getD 2 .bad)).bind fun n150 =>
      (asSl (d147.getD 3 .bad)).bind fun s151 =>
      (asSl (d147.getD 4 .bad)).bind fun s152 =>
      some ((AV.agg [(.int .i64 n148), (.bool t149), (.int .i64 n150), (.slice s151.1 s151.2.1 s151.2.2), (.slice s152.1 s152.2.1 s152.2.2)]), (AHeap.put r137.2.1 (nx + 1) (some b144)), r137.2.2))) := fun m0 m1 hm hm1 hk => by
    rw [show stepP s c = (match getO c.name s.obj with | none => (noT 6, s) | some x => objectP s x c) from by unfold stepP; rw [if_neg (by omega), if_neg (by omega), if_neg (by omega), if_neg (by omega), if_pos hk]; rfl]
    simp only [mst_, mst5_]
    rw [ld_at p2.st (show _ = some (AV.mapv (some o)) from rfl)]
    simp only [mst_, mst5_]
    rw [ld_at b1 (show _ = some (AV.str c.name) from rfl)]
    simp only [mst_, mst5_]
    obtain ⟨cs, e1, e2⟩ := p2.ob
    rw [mapO_at e1]
    simp only [mst_, mst5_]
    rcases find_ent c.name e2 0 with ⟨t1, t2, _⟩ | ⟨x, i0, v, t1, t2, ⟨ba, bc, rfl, s1, s2⟩, _, _⟩
    · rw [t2]
      simp only [mst_, mst5_]
      rw [show asSl (valE (.slice none 0 none) none) = some (none, 0, none) from rfl]
      simp only [mst_, mst5_]
      rw [if_pos (by rfl), t1]
      exact DoRes.no Y p (x2.le hm) hm b2 rfl _ rfl
    · rw [t2]
      simp only [mst_, mst5_]
      rw [show asSl (valE (.slice none 0 none) (some (0 + i0, .slice ba x.length bc))) = some (ba, x.length, bc) from by simp [valE, asSl]]
      simp only [mst_, mst5_]
      rw [if_neg (by simp [hasE]), ldr_all (n := 8) b1 rfl, t1]
      simp only [mst_, mst5_]
      have hx : x.length ≤ 1024 := (ok.obj _ (getO_mem t1)).2
      exact DoRes.tail (object_spec (by omega) Y (p.ext (x2.le hm1)) bc (s1.ext ((Ext.refl h2 (nx + 2)).le hm1)) hx c x5 x6 dc (sd.ext (x2.le hm1)) hk) (x2.le hm1) (by omega) (by omega) b2 rfl p
  rw [ld_at b1 (show _ = some (AV.int .i64 c.kind) from rfl), asI_int, some_bind]
  have tt : ∀ {x y : Int}, x = y → (x == y) = true := fun e => by rw [beq_iff_eq]; exact e
  have ff : ∀ {x y : Int}, x ≠ y → ¬ (x == y) = true := fun e => by rw [beq_iff_eq]; exact e
  by_cases k1 : c.kind = 1
  · rw [if_pos (tt k1)]
    simp only [mst_, mst5_]
    rw [ld_at p2.st (show _ = some (AV.mapv (some o)) from rfl)]
    simp only [mst_, mst5_]
    rw [ld_at b1 (show _ = some (AV.str c.name) from rfl)]
    simp only [mst_, mst5_]
    obtain ⟨h3, n3, r1, r2⟩ := room22 (n := n + 8) (by omega) Y (h := h2) (nx := nx + 14) (o := o) (by omega) (p.ext (x2.le (by omega : nx + 2 ≤ nx + 14))).ob hs1 4
    rw [show ((4 : Nat) : Int) = 4 from rfl] at r1
    rw [r1]
    simp only [mst_, mst5_]
    have hn3 : nx + 14 ≤ n3 := r2.1
    have x3 : Ext h nx h3 n3 := ⟨by omega, fun i hi => (r2.2 i (by omega)).trans (x2.2 i hi)⟩
    have p3 := p.ext x3
    by_cases e0 : roomP s.obj c.name 4 = 0
    · rw [if_neg (by rw [e0]; decide)]
      try simp only [mst_, mst5_]
      rw [ld_at p3.st (show _ = some (AV.mapv (some o)) from rfl)]
      simp only [mst_, mst5_]
      rw [ld_at ((r2.2 nx (by omega)).trans b1) (show _ = some (AV.str c.name) from rfl)]
      simp only [mst_, mst5_]
      rw [ld_at p3.st (show _ = some (AV.slice none 0 none) from rfl)]
      simp only [mst_, mst5_]
      obtain ⟨cs, e1, e2⟩ := p3.ob
      obtain ⟨cs', u1, u2⟩ := upd_ent (k := c.name) (x := ([] : List Int)) (v := .slice none 0 none) e2 (Byt.none _ _ _ _ _)
      rw [mapD_at e1]
      simp only [mst_, mst5_]
      rw [u1]
      simp only [mst_, mst5_]
      have hb : h3 (nx + 1) = some ⟨[.int .i64 0, .bool false, .int .i64 0, .slice none 0 none, .slice none 0 none], 5, true⟩ := (r2.2 _ (by omega)).trans b2
      rw [tail5l (show (AHeap.put _ o _) (nx + 1) = _ from (put_ne (by omega)).trans hb) rfl]
      rw [show stepP s c = (⟨0, 0, [], []⟩, { s with obj := setO c.name [] s.obj }) from by unfold stepP; rw [if_pos k1]; simp [e0, noT]]
      have f0 : Frm (fun i => i = o) h nx (h3.put o (some ⟨cs', MB, true⟩)) n3 := (x3.fr _).put (.inl rfl) (Nat.le_refl _)
      have f := f0.put (i := nx + 1) (b := some ⟨[.int .i64 0, .bool false, .int .i64 0, .slice none 0 none, .slice none 0 none], 5, true⟩) (m := n3 + 15) (.inr (by omega)) (by omega)
      have g : Frm (fun i => i = o ∨ i = nx + 1) h3 n3 ((h3.put o (some ⟨cs', MB, true⟩)).put (nx + 1) (some ⟨[.int .i64 0, .bool false, .int .i64 0, .slice none 0 none, .slice none 0 none], 5, true⟩)) (n3 + 15) :=
        ⟨by omega, fun i hi hd => by rw [put_ne (by omega), put_ne (by omega)]⟩
      refine DoRes.objs p f ⟨cs', by rw [put_ne (by omega), put_same], u2.mono fun w u ⟨u', q1, ba, bc, q2, s1, s2⟩ => ⟨u', q1, ba, bc, q2, s1.fr (fun hn pp ep q => ?_) g, s2⟩⟩ rfl
      rcases q with q | q
      · exact s2 hn pp ep (.inl (.inr (.inl q)))
      · obtain ⟨pb, bb, t1, t2, t3, t4, _⟩ := s1.2 0 hn
        rw [t1] at ep; obtain rfl := Option.some.inj ep
        rw [q, hb] at t3
        obtain rfl := Option.some.inj t3
        cases t4
    · rw [if_pos (by simpa using e0)]
      exact DoRes.no Y p (x3.le (by omega)) (by omega) ((r2.2 _ (by omega)).trans b2) rfl _ (by unfold stepP; rw [if_pos k1]; simp [e0])
  rw [if_neg (ff k1)]
  have keyT : ∀ (v : AV) (h3 : AHeap) (n3 m0 : Nat) (ns : List ByteArray), nx + 2 ≤ m0 → Ext h2 m0 h3 n3 → Txt h3 n3 (Old m0) v ns → ∀ z : Tld × Pl, z = (⟨0, 0, [], ns⟩, s) → ∃ na nc, v = .slice na ns.length nc ∧ ∀ r, r = some (AV.agg [.int .i64 0, .bool false, .int .i64 0, .slice none 0 none, .slice na ns.length nc], h3.put (nx + 1) (some ⟨[.int .i64 0, .bool false, .int .i64 0, .slice none 0 none, .slice na ns.length nc], 5, true⟩), n3) → DoRes X h nx S o k z.1 z.2 r :=
    fun v h3 n3 m0 ns hm x3 ⟨na, nc, e, s1, s2⟩ z hz => by
      refine ⟨na, nc, e, fun r hr => ?_⟩
      rw [hz]
      have hn3 := x3.1
      have x : Ext h nx h3 n3 := ⟨by omega, fun i hi => (x3.2 i (by omega)).trans (x2.2 i hi)⟩
      refine DoRes.same ⟨_, _, _, hr, x.put (by omega) (Nat.le_refl _), _, _, rfl, Byt.none _ _ _ _ _, na, nc, rfl, s1.fr (fun hn pp ep q => ?_) ((Frm.refl (fun i => i = nx + 1) h3 n3).put (.inl rfl) (Nat.le_refl _)), s2.less fun i q => by unfold Old at *; omega⟩ p
      exact s2 hn pp ep (by unfold Old; have q' : pp.1 = nx + 1 := q; omega)
  by_cases k6 : c.kind = 6
  · rw [if_pos (tt k6)]
    simp only [mst_, mst5_]
    rw [ld_at p2.st (show _ = some (AV.mapv (some o)) from rfl)]
    simp only [mst_, mst5_]
    obtain ⟨v, h3, n3, r1, r2, r3⟩ := keys_res (nx := nx + 15) p2.ob (fun x hx => by have := (ok.obj x hx).1; omega) (by have := ok.olen; omega)
    obtain ⟨na, nc, rfl, hd⟩ := keyT v h3 n3 (nx + 15) _ (by omega) r2 r3 (stepP s c) (by unfold stepP; rw [if_neg k1, if_pos k6])
    rw [show callP Try.prog keepT (n + 8) Y 24 [.mapv (some o)] h2 (nx + 15) = some (_, h3, n3) from (F24_eq ..).trans r1]
    simp only [mst_, mst5_]
    exact hd _ (tail5l ((r2.2 _ (by omega)).trans b2) rfl)
  rw [if_neg (ff k6)]
  by_cases k11 : c.kind = 11
  · rw [if_pos (tt k11)]
    simp only [mst_, mst5_]
    rw [ld_at p2.st (show _ = some (AV.mapv (some k)) from rfl)]
    simp only [mst_, mst5_]
    obtain ⟨v, h3, n3, r1, r2, r3⟩ := keys_res (nx := nx + 17) p2.sn (fun x hx => by have := (ok.snaps x hx).1; omega) (by have := ok.slen; omega)
    obtain ⟨na, nc, rfl, hd⟩ := keyT v h3 n3 (nx + 17) _ (by omega) r2 r3 (stepP s c) (by unfold stepP; rw [if_neg k1, if_neg k6, if_pos k11])
    rw [show callP Try.prog keepT (n + 8) Y 25 [.mapv (some k)] h2 (nx + 17) = some (_, h3, n3) from (F25_eq ..).trans r1]
    simp only [mst_, mst5_]
    exact hd _ (tail5l ((r2.2 _ (by omega)).trans b2) rfl)
  rw [if_neg (ff k11)]
  by_cases k7 : c.kind = 7
  · rw [if_pos (tt k7), if_pos (tt k7)]
    exact snp _ (by omega) (.inl k7)
  rw [if_neg (ff k7)]
  by_cases k8 : c.kind = 8
  · rw [if_pos (tt k8), if_pos (tt k8)]
    exact snp _ (by omega) (.inr (.inl k8))
  rw [if_neg (ff k8)]
  by_cases k9 : c.kind = 9
  · rw [if_pos (tt k9), if_pos (tt k9)]
    exact snp _ (by omega) (.inr (.inr (.inl k9)))
  rw [if_neg (ff k9)]
  by_cases k10 : c.kind = 10
  · rw [if_pos (tt k10)]
    exact snp _ (by omega) (.inr (.inr (.inr k10)))
  rw [if_neg (ff k10)]
  by_cases k2 : c.kind = 2
  · rw [if_pos (tt k2), if_pos (tt k2)]
    exact obj _ _ (by omega) (by omega) (.inl k2)
  rw [if_neg (ff k2)]
  by_cases k3 : c.kind = 3
  · rw [if_pos (tt k3), if_pos (tt k3)]
    exact obj _ _ (by omega) (by omega) (.inr (.inl k3))
  rw [if_neg (ff k3)]
  by_cases k4 : c.kind = 4
  · rw [if_pos (tt k4), if_pos (tt k4)]
    exact obj _ _ (by omega) (by omega) (.inr (.inr (.inl k4)))
  rw [if_neg (ff k4)]
  by_cases k5 : c.kind = 5
  · rw [if_pos (tt k5)]
    exact obj _ _ (by omega) (by omega) (.inr (.inr (.inr k5)))
  rw [if_neg (ff k5)]
  have hstep : stepP s c = if c.kind = 12 then (noT 0, s) else (noT 3, s) := by unfold stepP; rw [if_neg k1, if_neg k6, if_neg k11, if_neg (by omega), if_neg (by omega)]
  by_cases k12 : c.kind = 12
  · rw [if_pos (tt k12), hstep, if_pos k12, tail5l b2 rfl]
    exact DoRes.same ⟨_, _, _, rfl, x2.put (by omega) (by omega), ToldR.no _ _ _ _⟩ p
  · rw [if_neg (ff k12), hstep, if_neg k12]
    exact DoRes.no (z := (noT 3, s)) Y p (x2.le (by omega)) (by omega) b2 rfl _ rfl
end Go.Proofs.Ytncmdbpoceilgaa.T
