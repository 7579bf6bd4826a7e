/- Pools: what is done to an object. -/
import Derived.Test.YtncmdbpoceilgaaP4
set_option linter.unusedVariables false
set_option linter.unusedSimpArgs false
namespace Go.Proofs.Ytncmdbpoceilgaa.T
open Go Go.RowKit Go.Proofs
set_option maxRecDepth 10000
variable {X : Nat → Prop}

theorem DoRes.same {h : AHeap} {nx S o k : Nat} {t : Tld} {s : Pl} {r : Option (AV × AHeap × Nat)} (w : ∃ row h' nx', r = some (.agg row, h', nx') ∧ Ext h nx h' nx' ∧ ToldR h' nx' (Old nx) t row) (p : PM X h nx S o k s) : DoRes X h nx S o k t s r := by
  obtain ⟨row, h', nx', e, x, q⟩ := w
  refine ⟨row, h', nx', o, e, q.go (Frm.refl (fun _ => False) h' nx') (fun _ _ q => q.elim) (fun i hi q => ?_), p.ext x, x.fr _, .inl rfl⟩
  have := p.lo
  unfold Old
  rcases q with q | q <;> omega
theorem PM.turnO {h h' : AHeap} {nx nx' S o k : Nat} {s : Pl} (p : PM X h nx S o k s) (f : Frm (fun i => i = o) h nx h' nx') {obj' : Objs} (m : MapM (RB h' nx' (Avd X S o k)) h' o obj') : PM X h' nx' S o k { s with obj := obj' } :=
  ⟨(f.2 S p.lS p.So).trans p.st, m, p.sn.mono (f.2 k p.lk (fun q => p.ok q.symm)) fun _ _ r => RM.go r f (fun _ _ q => .inl (.inr (.inl q))) fun _ _ q => q,
   by have := p.lS; have := f.1; omega, by have := p.lo; have := f.1; omega, by have := p.lk; have := f.1; omega, p.So, p.Sk, p.ok, fun i hi => by have := p.lX i hi; have := f.1; omega⟩
theorem Frm.toB {h h' : AHeap} {nx nx' S o k : Nat} (f : Frm (fun i => i = o) h nx h' nx') : Frm (Bst S o k) h nx h' nx' := f.more fun _ _ q => .inr (.inl q)

/-- An answer without data, and the objects are others. -/
theorem DoRes.objs {h h' : AHeap} {nx nx' S o k : Nat} {s : Pl} {e z : Int} (p : PM X h nx S o k s) (f : Frm (fun i => i = o) h nx h' nx') {obj' : Objs} (m : MapM (RB h' nx' (Avd X S o k)) h' o obj') {r : Option (AV × AHeap × Nat)}
    (hr : r = some (.agg [.int .i64 e, .bool false, .int .i64 z, .slice none 0 none, .slice none 0 none], h', nx')) : DoRes X h nx S o k ⟨e, z, [], []⟩ { s with obj := obj' } r :=
  ⟨_, h', nx', o, hr, ⟨_, _, rfl, Byt.none _ _ _ _ _, Txt.none _ _ _ _ _⟩, p.turnO f m, f.toB, .inl rfl⟩

theorem obj_j3 {n lf : Nat} (Y : YldF) {h : AHeap} {nx S o k px pr : Nat} {s : Pl} (p : PM X h nx S o k s) {c : Cmd} {x5 x6 : Int} {da : Option (Nat × Nat)} {dc : Option Nat} {l : List AV} (hx : h px = some ⟨cmdV c x5 x6 da dc, 8, true⟩) (hr : h pr = some ⟨l, 5, true⟩) (hl : l.length = 5)
    (po : pr ≠ o) {ya : Option (Nat × Nat)} (yc : Option Nat) {y : List Int} (hy : Byt .u8 h nx (Avd X S o k) (.slice ya y.length yc) y) :
    ∃ cs', F27_J3 (callP Try.prog keepT (n + 1)) Y lf (some (S, 0)) ya y.length yc (some (px, 0)) (some (pr, 0)) 0 h nx = some (.agg [.int .i64 0, .bool false, .int .i64 (y.length : Int), .slice none 0 none, .slice none 0 none],
      (h.put o (some ⟨cs', MB, true⟩)).put pr (some ⟨[.int .i64 0, .bool false, .int .i64 (y.length : Int), .slice none 0 none, .slice none 0 none], 5, true⟩), nx + 19) ∧ All2 (Ent (RB h nx (Avd X S o k))) (setO c.name y s.obj) cs' := by
  obtain ⟨cs, e1, e2⟩ := p.ob
  obtain ⟨cs', u1, u2⟩ := upd_ent (k := c.name) (x := y) e2 hy
  refine ⟨cs', ?_, u2⟩
  rw [F27_J3_eq, if_neg (by simp)]
  simp only [mst_, mst5_]
  rw [ld_at p.st (show _ = some (AV.mapv (some o)) from rfl)]
  simp only [mst_, mst5_]
  rw [ld_at hx (show _ = some (AV.str c.name) from rfl)]
  simp only [mst_, mst5_]
  rw [mapD_at e1]
  simp only [mst_, mst5_]
  rw [u1]
  simp only [mst_, mst5_]
  rw [size_spec]
  simp only [mst_, mst5_]
  rw [tail5l ((put_ne po).trans hr) hl]

theorem object_spec {n : Nat} (hn : 10 ≤ n) (Y : YldF) {h : AHeap} {nx S o k : Nat} {s : Pl} (p : PM X h nx S o k s) {a : Option (Nat × Nat)} (cc : Option Nat) {bs : List Int} (sx : Sl h nx a bs.length 1 (ints .u8 bs)) (hl : bs.length ≤ 1024) (c : Cmd) (x5 x6 : Int) {da : Option (Nat × Nat)} (dc : Option Nat)
    (sd : Sl h nx da c.data.length 1 (ints .u8 c.data)) (hk : c.kind = 2 ∨ c.kind = 3 ∨ c.kind = 4 ∨ c.kind = 5) :
    DoRes X h nx S o k (objectP s bs c).1 (objectP s bs c).2 (callP Try.prog keepT n Y 27 [.ptr (some (S, 0)), .slice a bs.length cc, .agg (cmdV c x5 x6 da dc)] h nx) := by
  obtain ⟨n, rfl⟩ : ∃ m, n = m + 9 := ⟨n - 9, by omega⟩
  unfold cmdV
  rw [F27_eq]
  dsimp only
  obtain ⟨h2, hh2⟩ : ∃ h2, h2 = AHeap.put (AHeap.put h nx (some ⟨[.int .i64 c.kind, .str c.name, .str c.other, .int .i64 c.off, .int .i64 c.count, .int .i64 x5, .int .i64 x6, .slice da c.data.length dc], 8, true⟩)) (nx + 1) (some ⟨[.int .i64 0, .bool false, .int .i64 0, .slice none 0 none, .slice none 0 none], 5, true⟩) := ⟨_, rfl⟩
  rw [← hh2]
  have b1 : h2 nx = some ⟨[.int .i64 c.kind, .str c.name, .str c.other, .int .i64 c.off, .int .i64 c.count, .int .i64 x5, .int .i64 x6, .slice da c.data.length dc], 8, true⟩ := by rw [hh2, put_ne (by omega), put_same]
  have b2 : h2 (nx + 1) = some ⟨[.int .i64 0, .bool false, .int .i64 0, .slice none 0 none, .slice none 0 none], 5, true⟩ := by rw [hh2, put_same]
  have x2 : Ext h nx h2 (nx + 2) := by rw [hh2]; exact ((Ext.refl h nx).put (m' := nx + 1) (by omega) (by omega)).put (by omega) (by omega)
  clear hh2
  have lo := p.lo
  rw [ld_at b1 (show _ = some (AV.int .i64 c.kind) from rfl)]
  simp only [mst_, mst5_]
  have no : ∀ (m0 : Nat) (e : Int), nx + 2 ≤ m0 → ∀ (z : Tld × Pl), z = (noT e, s) → DoRes X h nx S o k z.1 z.2 ((callP Try.prog keepT (n + 8) Y 23 [.int .i64 e] h2 m0).bind fun r5 => (asAgg 5 r5.1).bind fun d6 =>
      (asI .i64 (d6.getD 0 .bad)).bind fun n7 =>
      (asB (d6.getD 1 .bad)).bind fun t8 =>
      (asI .i64 (d6.getD 2 .bad)).bind fun n9 =>
      (asSl (d6.getD 3 .bad)).bind fun s10 =>
      (asSl (d6.getD 4 .bad)).bind fun s11 =>
      (stA r5.2.1 (nx + 1) 0 (.agg [(.int .i64 n7), (.bool t8), (.int .i64 n9), (.slice s10.1 s10.2.1 s10.2.2), (.slice s11.1 s11.2.1 s11.2.2)]) 5).bind fun b12 =>
      (ldR (AHeap.put r5.2.1 (nx + 1) (some b12)) (nx + 1) 0 5).bind fun l14 =>
      (asAgg 5 (AV.agg l14)).bind fun d15 =>
      (asI .i64 (d15.getD 0 .bad)).bind fun n16 =>
      (asB (d15.getD 1 .bad)).bind fun t17 =>
      (asI .i64 (d15.getD 2 .bad)).bind fun n18 =>
      (asSl (d15.getD 3 .bad)).bind fun s19 =>
      (asSl (d15.getD 4 .bad)).bind fun s20 =>
      some ((AV.agg [(.int .i64 n16), (.bool t17), (.int .i64 n18), (.slice s19.1 s19.2.1 s19.2.2), (.slice s20.1 s20.2.1 s20.2.2)]), AHeap.put r5.2.1 (nx + 1) (some b12), r5.2.2)) := fun m0 e hm z hz => by
    rw [tail5 (no_eq _ Y e h2 m0) (show (h2.put m0 _) (nx + 1) = _ from (put_ne (by omega)).trans b2) rfl, hz]
    exact DoRes.same ⟨_, _, _, rfl, (x2.put (by omega) (Nat.le_refl _)).put (by omega) (by omega) |>.le (by omega), ToldR.no _ _ _ _⟩ p
  by_cases k3 : c.kind = 3
  · rw [if_pos (by simpa using k3), ldr_all (n := 8) b1 rfl]
    simp only [mst_, mst5_]
    rw [show objectP s bs c = (fetchP bs c, s) from by simp [objectP, k3]]
    exact DoRes.tail (DoRes.same (fetch_spec (by omega) Y cc (sx.ext (x2.le (by omega : nx + 2 ≤ nx + 11))) hl c x5 x6 da dc) (p.ext (x2.le (by omega : nx + 2 ≤ nx + 11)))) (x2.le (by omega)) (by omega) (by omega) b2 rfl p
  · rw [if_neg (by simpa using k3)]
    by_cases k5 : c.kind = 5
    · rw [if_pos (by simpa using k5)]
      try simp only [mst_, mst5_]
      rw [ld_at ((x2.2 S p.lS).trans p.st) (show _ = some (AV.mapv (some o)) from rfl)]
      simp only [mst_, mst5_]
      rw [ld_at b1 (show _ = some (AV.str c.name) from rfl)]
      simp only [mst_, mst5_]
      obtain ⟨cs, e1, e2⟩ := p.ob
      obtain ⟨cs', u1, u2⟩ := del_ent (k := c.name) e2
      rw [mapD_at ((x2.2 o lo).trans e1)]
      simp only [mst_, mst5_]
      rw [u1]
      simp only [mst_, mst5_]
      rw [tail5l ((put_ne (by omega)).trans b2) rfl, show objectP s bs c = (⟨0, 0, [], []⟩, { s with obj := delO c.name s.obj }) from by simp [objectP, k3, k5, noT]]
      have f0 : Frm (fun i => i = o) h nx (h2.put o (some ⟨cs', MB, true⟩)) (nx + 2) := (x2.fr _).put (.inl rfl) (Nat.le_refl _)
      have f : Frm (fun i => i = o) h nx ((h2.put o (some ⟨cs', MB, true⟩)).put (nx + 1) (some ⟨[.int .i64 0, .bool false, .int .i64 0, .slice none 0 none, .slice none 0 none], 5, true⟩)) (nx + 18) :=
        f0.put (i := nx + 1) (.inr (by omega)) (by omega)
      exact DoRes.objs p f ⟨cs', by rw [put_ne (by omega), put_same], u2.mono fun x v ⟨u, q1, q2⟩ => ⟨u, q1, Byt.go q2 f (fun _ _ q => .inl (.inr (.inl q))) fun _ _ q => q⟩⟩ rfl
    · rw [if_neg (by simpa using k5)]
      -- behind the new bytes
      have fin : ∀ (lf : Nat) (v : AV) (y : List Int) (h3 : AHeap) (n3 : Nat), nx + 2 ≤ n3 → Ext h2 (nx + 2) h3 n3 → Byt .u8 h3 n3 (Old (nx + 2)) v y → ∀ z : Tld × Pl, z = (⟨0, y.length, [], []⟩, { s with obj := setO c.name y s.obj }) →
          ∃ ya yc, v = .slice ya y.length yc ∧ DoRes X h nx S o k z.1 z.2 (F27_J3 (callP Try.prog keepT (n + 8)) Y lf (some (S, 0)) ya y.length yc (some (nx, 0)) (some (nx + 1, 0)) 0 h3 n3) := fun lf v y h3 n3 hn3 x3 hy z hz => by
        obtain ⟨ya, yc, rfl, hy1, hy2⟩ := hy
        have x : Ext h nx h3 n3 := ⟨by omega, fun i hi => (x3.2 i (by omega)).trans (x2.2 i hi)⟩
        have p3 := p.ext x
        have lS := p.lS; have lk := p.lk
        have hyB : Byt .u8 h3 n3 (Avd X S o k) (.slice ya y.length yc) y := ⟨ya, yc, rfl, hy1, hy2.less fun i q => by
          unfold Old
          rcases q with q | q
          · unfold Bst at q; omega
          · have := p.lX i q; omega⟩
        obtain ⟨cs', g1, g2⟩ := obj_j3 (n := n + 7) (lf := lf) Y p3 (px := nx) (pr := nx + 1) ((x3.2 nx (by omega)).trans b1) ((x3.2 (nx + 1) (by omega)).trans b2) rfl (by omega) yc hyB
        refine ⟨ya, yc, rfl, ?_⟩
        rw [hz]
        have f0 : Frm (fun i => i = o) h nx (h3.put o (some ⟨cs', MB, true⟩)) n3 := (x.fr _).put (.inl rfl) (Nat.le_refl _)
        have f : Frm (fun i => i = o) h nx ((h3.put o (some ⟨cs', MB, true⟩)).put (nx + 1) (some ⟨[.int .i64 0, .bool false, .int .i64 (y.length : Int), .slice none 0 none, .slice none 0 none], 5, true⟩)) (n3 + 19) :=
          f0.put (i := nx + 1) (.inr (by omega)) (by omega)
        have f30 : Frm (fun i => i = o ∨ i = nx + 1) h3 n3 (h3.put o (some ⟨cs', MB, true⟩)) n3 := (Frm.refl _ h3 n3).put (.inl (.inl rfl)) (Nat.le_refl _)
        have f3 : Frm (fun i => i = o ∨ i = nx + 1) h3 n3 ((h3.put o (some ⟨cs', MB, true⟩)).put (nx + 1) (some ⟨[.int .i64 0, .bool false, .int .i64 (y.length : Int), .slice none 0 none, .slice none 0 none], 5, true⟩)) (n3 + 19) :=
          f30.put (i := nx + 1) (.inl (.inr rfl)) (by omega)
        refine DoRes.objs p f ⟨cs', by rw [put_ne (by omega), put_same], g2.mono fun w u ⟨u', q1, q2⟩ => ⟨u', q1, ?_⟩⟩ g1
        -- bytes do not lie in the result's cell
        obtain ⟨ba, bc, rfl, s1, s2⟩ := q2
        refine ⟨ba, bc, rfl, s1.fr (fun hn pp ep q => ?_) f3, s2⟩
        rcases q with q | q
        · exact s2 hn pp ep (.inl (.inr (.inl q)))
        · obtain ⟨pb, bb, t1, t2, t3, t4, _⟩ := s1.2 0 hn
          rw [t1] at ep; obtain rfl := Option.some.inj ep
          rw [q, (x3.2 (nx + 1) (by omega)).trans b2] at t3
          obtain rfl := Option.some.inj t3
          cases t4
      by_cases k2 : c.kind = 2
      · rw [if_pos (by simpa using k2), ld_at b1 (show _ = some (AV.slice da c.data.length dc) from rfl)]
        simp only [mst_, mst5_]
        by_cases q1 : c.data.length = 0
        · rw [if_pos (by rw [beq_iff_eq]; omega)]
          exact no _ 1 (by omega) _ (by simp [objectP, k2, q1])
        · rw [if_neg (by rw [beq_iff_eq]; omega)]
          by_cases q2 : c.data.length > 400
          · rw [if_pos (by simp; omega)]
            exact no _ 1 (by omega) _ (by unfold objectP; rw [if_neg k3, if_neg k5, if_pos k2, if_neg q1, if_pos q2])
          · rw [if_neg (by simp; omega), ld_at b1 (show _ = some (AV.int .i64 c.off) from rfl)]
            simp only [mst_, mst5_]
            by_cases q3 : c.off < 0
            · rw [if_pos (by simpa using q3)]
              exact no _ 2 (by omega) _ (by unfold objectP; rw [if_neg k3, if_neg k5, if_pos k2, if_neg q1, if_neg q2, if_pos q3])
            · rw [if_neg (by simpa using q3), ld_at b1 (show _ = some (AV.int .i64 c.off) from rfl)]
              simp only [mst_, mst5_]
              rw [wA (x := 1024 - ((c.data.length : Nat) : Int)) (by omega) (by omega)]
              by_cases q4 : c.off > 1024 - ((c.data.length : Nat) : Int)
              · rw [if_pos (by simpa using q4)]
                exact no _ 2 (by omega) _ (by unfold objectP; rw [if_neg k3, if_neg k5, if_pos k2, if_neg q1, if_neg q2, if_neg q3, if_pos q4])
              · rw [if_neg (by simpa using q4), F27_J1_eq]
                simp only [mst_, mst5_]
                rw [ld_at b1 (show _ = some (AV.int .i64 c.off) from rfl)]
                simp only [mst_, mst5_]
                rw [ld_at b1 (show _ = some (AV.slice da c.data.length dc) from rfl)]
                simp only [mst_, mst5_]
                have ho : c.off = ((c.off.toNat : Nat) : Int) := by omega
                obtain ⟨v, h3, n3, g1, g2, g3⟩ := write_spec (n + 7) Y cc dc (sx.ext (x2.le (by omega : nx + 2 ≤ nx + 33 + 12))) (sd.ext (x2.le (by omega : nx + 2 ≤ nx + 33 + 12))) (o := c.off.toNat) (by omega) (by omega) (by omega)
                rw [← ho] at g1
                rw [g1]
                obtain ⟨ya, yc, rfl, g4⟩ := fin (n + 8) v (writeP bs c.off.toNat c.data) h3 n3 (by have := g2.1; omega) ⟨by have := g2.1; omega, fun i hi => g2.2 i (by omega)⟩ (by
                  obtain ⟨va, vc, rfl, v1, v2⟩ := g3
                  exact ⟨va, vc, rfl, v1, v2.less fun i q => by unfold Old at *; omega⟩) _ rfl
                simp only [mst_, mst5_]
                rw [show objectP s bs c = (⟨0, (writeP bs c.off.toNat c.data).length, [], []⟩, { s with obj := setO c.name (writeP bs c.off.toNat c.data) s.obj }) from by unfold objectP; rw [if_neg k3, if_neg k5, if_pos k2, if_neg q1, if_neg q2, if_neg q3, if_neg q4]]
                exact g4
      · have k4 : c.kind = 4 := by omega
        rw [if_neg (by simpa using k2), if_pos (by simpa using k4), ld_at b1 (show _ = some (AV.int .i64 c.count) from rfl)]
        simp only [mst_, mst5_]
        by_cases q1 : c.count < 0
        · rw [if_pos (by simpa using q1)]
          exact no _ 2 (by omega) _ (by unfold objectP; rw [if_neg k3, if_neg k5, if_neg k2, if_pos q1])
        · rw [if_neg (by simpa using q1), ld_at b1 (show _ = some (AV.int .i64 c.count) from rfl)]
          simp only [mst_, mst5_]
          by_cases q2 : c.count > 1024
          · rw [if_pos (by simpa using q2)]
            exact no _ 2 (by omega) _ (by unfold objectP; rw [if_neg k3, if_neg k5, if_neg k2, if_neg q1, if_pos q2])
          · rw [if_neg (by simpa using q2), F27_J2_eq]
            simp only [mst_, mst5_]
            rw [ld_at b1 (show _ = some (AV.int .i64 c.count) from rfl)]
            simp only [mst_, mst5_]
            have ho : c.count = ((c.count.toNat : Nat) : Int) := by omega
            obtain ⟨v, h3, n3, g1, g2, g3⟩ := resize_spec (n + 7) Y cc (sx.ext (x2.le (by omega : nx + 2 ≤ nx + 21 + 10))) (k := c.count.toNat) (by omega)
            rw [← ho] at g1
            rw [g1]
            obtain ⟨ya, yc, rfl, g4⟩ := fin (n + 8) v (resizeP bs c.count.toNat) h3 n3 (by have := g2.1; omega) ⟨by have := g2.1; omega, fun i hi => g2.2 i (by omega)⟩ (by
              obtain ⟨va, vc, rfl, v1, v2⟩ := g3
              exact ⟨va, vc, rfl, v1, v2.less fun i q => by unfold Old at *; omega⟩) _ rfl
            simp only [mst_, mst5_]
            rw [show objectP s bs c = (⟨0, (resizeP bs c.count.toNat).length, [], []⟩, { s with obj := setO c.name (resizeP bs c.count.toNat) s.obj }) from by unfold objectP; rw [if_neg k3, if_neg k5, if_neg k2, if_neg q1, if_neg q2]]
            exact g4
end Go.Proofs.Ytncmdbpoceilgaa.T
