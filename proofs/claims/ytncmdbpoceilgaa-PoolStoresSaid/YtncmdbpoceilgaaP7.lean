/- Pools: a command. Printed by mk7.py: two branches of the print stand in it. -/
import Derived.Test.YtncmdbpoceilgaaP6
set_option linter.unusedVariables false
set_option linter.unusedSimpArgs false
namespace Go.Proofs.Ytncmdbpoceilgaa.T
open Go Go.RowKit Go.Proofs
set_option maxRecDepth 10000
variable {X : Nat → Prop}

theorem keys_res {β : Type} {R : β → AV → Prop} {h : AHeap} {nx o : Nat} {l : List (ByteArray × β)} (m : MapM R h o l) (hs : ∀ x ∈ l, x.1.size ≤ 1000) (hl : l.length ≤ 1000) :
    ∃ v h' nx', orcKeys (some o) h nx = some (v, h', nx') ∧ Ext h nx h' nx' ∧ Txt h' nx' (Old nx) v (sortS (l.map (·.1))) := by
  obtain ⟨cs, e1, e2⟩ := m
  unfold orcKeys
  simp only
  rw [mapD_at e1, some_bind, keys_ent e2, some_bind, if_pos (by
    rw [Bool.and_eq_true, List.all_eq_true, Nat.ble_eq, List.length_map]
    refine ⟨fun k hk => ?_, by omega⟩
    obtain ⟨x, hx, rfl⟩ := List.mem_map.1 hk
    rw [Nat.ble_eq]; have := hs x hx; omega)]
  by_cases h0 : (l.map (·.1)).isEmpty = true
  · rw [if_pos h0]
    have : l.map (·.1) = [] := List.isEmpty_iff.1 h0
    rw [this, show sortS [] = [] from by simp [sortS]]
    exact ⟨_, _, _, rfl, Ext.refl h nx, Txt.none _ _ _ _ _⟩
  · rw [if_neg h0]
    have hlen : (l.map (·.1)).length = (sortS (l.map (·.1))).length := (sortS_len _).symm
    rw [hlen]
    refine ⟨_, _, nx + 1, rfl, (Ext.refl h nx).put (by omega) (by omega), _, _, rfl, ⟨by simp, fun j hj => ⟨(nx, 0), _, rfl, by simp, put_same _ _ _, rfl, by simp, fun q hq => by simp⟩⟩, fun hn p ep q => ?_⟩
    obtain rfl := Option.some.inj ep
    unfold Old at q; simp at q

theorem do_spec {n : Nat} (hn : 1030 ≤ n) (Y : YldF) {h : AHeap} {nx S o k : Nat} {s : Pl} (p : PM X h nx S o k s) (ok : s.Ok) (c : Cmd) (x5 x6 : Int) {da : Option (Nat × Nat)} (dc : Option Nat)
    (sd : Sl h nx da c.data.length 1 (ints .u8 c.data)) (hs1 : c.name.size ≤ 1000) (hs : c.other.size ≤ 1000) :
    DoRes X h nx S o k (stepP s c).1 (stepP s c).2 (callP Try.prog keepT n Y 21 [.ptr (some (S, 0)), .agg (cmdV c x5 x6 da dc)] h nx) := by
  obtain ⟨n, rfl⟩ : ∃ m, n = m + 9 := ⟨n - 9, by omega⟩
  unfold cmdV
  rw [F21_eq]
  dsimp only
  obtain ⟨h2, hh2⟩ : ∃ h2, h2 = AHeap.put (AHeap.put h nx (some ⟨[.int .i64 c.kind, .str c.name, .str c.other, .int .i64 c.off, .int .i64 c.count, .int .i64 x5, .int .i64 x6, .slice da c.data.length dc], 8, true⟩)) (nx + 1) (some ⟨[.int .i64 0, .bool false, .int .i64 0, .slice none 0 none, .slice none 0 none], 5, true⟩) := ⟨_, rfl⟩
  rw [← hh2]
  have b1 : h2 nx = some ⟨[.int .i64 c.kind, .str c.name, .str c.other, .int .i64 c.off, .int .i64 c.count, .int .i64 x5, .int .i64 x6, .slice da c.data.length dc], 8, true⟩ := by rw [hh2, put_ne (by omega), put_same]
  have b2 : h2 (nx + 1) = some ⟨[.int .i64 0, .bool false, .int .i64 0, .slice none 0 none, .slice none 0 none], 5, true⟩ := by rw [hh2, put_same]
  have x2 : Ext h nx h2 (nx + 2) := by rw [hh2]; exact ((Ext.refl h nx).put (m' := nx + 1) (by omega) (by omega)).put (by omega) (by omega)
  clear hh2
  have lS := p.lS; have lo := p.lo; have lk := p.lk
  have p2 := p.ext x2
  -- snapshots
  have snp : ∀ m0, nx + 2 ≤ m0 → (c.kind = 7 ∨ c.kind = 8 ∨ c.kind = 9 ∨ c.kind = 10) → DoRes X h nx S o k (stepP s c).1 (stepP s c).2
      ((ldR h2 nx 0 8).bind fun l77 =>
      (asAgg 8 (AV.agg l77)).bind fun d78 =>
      (asI .i64 (d78.getD 0 .bad)).bind fun n79 =>
      (asStr (d78.getD 1 .bad)).bind fun s80 =>
      (asStr (d78.getD 2 .bad)).bind fun s81 =>
      (asI .i64 (d78.getD 3 .bad)).bind fun n82 =>
      (asI .i64 (d78.getD 4 .bad)).bind fun n83 =>
      (asI .i64 (d78.getD 5 .bad)).bind fun n84 =>
      (asI .i64 (d78.getD 6 .bad)).bind fun n85 =>
      (asSl (d78.getD 7 .bad)).bind fun s86 =>
      ((callP Try.prog keepT (n + 8)) Y 26 [(.ptr (some (S, 0))), (.agg [(.int .i64 n79), (.str s80), (.str s81), (.int .i64 n82), (.int .i64 n83), (.int .i64 n84), (.int .i64 n85), (.slice s86.1 s86.2.1 s86.2.2)])] h2 m0).bind fun r87 =>
      (asAgg 5 r87.1).bind fun d88 =>
      (asI .i64 (d88.getD 0 .bad)).bind fun n89 =>
      (asB (d88.getD 1 .bad)).bind fun t90 =>
      (asI .i64 (d88.getD 2 .bad)).bind fun n91 =>
      (asSl (d88.getD 3 .bad)).bind fun s92 =>
      (asSl (d88.getD 4 .bad)).bind fun s93 =>
      (stA r87.2.1 (nx + 1) 0 (.agg [(.int .i64 n89), (.bool t90), (.int .i64 n91), (.slice s92.1 s92.2.1 s92.2.2), (.slice s93.1 s93.2.1 s93.2.2)]) 5).bind fun b94 =>
      (ldR (AHeap.put r87.2.1 (nx + 1) (some b94)) (nx + 1) 0 5).bind fun l96 =>
      (asAgg 5 (AV.agg l96)).bind fun d97 =>
      (asI .i64 (d97.getD 0 .bad)).bind fun n98 =>
      (asB (d97.getD 1 .bad)).bind fun t99 =>
      (asI .i64 (d97.getD 2 .bad)).bind fun n100 =>
      (asSl (d97.getD 3 .bad)).bind fun s101 =>
      (asSl (d97.getD 4 .bad)).bind fun s102 =>
      some ((AV.agg [(.int .i64 n98), (.bool t99), (.int .i64 n100), (.slice s101.1 s101.2.1 s101.2.2), (.slice s102.1 s102.2.1 s102.2.2)]), (AHeap.put r87.2.1 (nx + 1) (some b94)), r87.2.2)) := fun m0 hm hk => by
    rw [show stepP s c = snapP s c from by unfold stepP; rw [if_neg (by omega), if_neg (by omega), if_neg (by omega), if_pos hk]]
    rw [ldr_all (n := 8) b1 rfl]
    simp only [mst_, mst5_]
    exact DoRes.tail (snap_spec (by omega) Y (p.ext (x2.le hm)) ok c x5 x6 dc hs hk) (x2.le hm) (by omega) (by omega) b2 rfl p
  -- objects
  have obj : ∀ m0 m1, nx + 2 ≤ m0 → nx + 2 ≤ m1 → (c.kind = 2 ∨ c.kind = 3 ∨ c.kind = 4 ∨ c.kind = 5) → DoRes X h nx S o k (stepP s c).1 (stepP s c).2
      ((some (S, 0)).bind fun p103 =>
      (ldA h2 p103.1 p103.2).bind fun v104 =>
      (asMp v104).bind fun m105 =>
      (ldA h2 nx 1).bind fun v106 =>
      (asStr v106).bind fun s107 =>
      (mapO h2 m105).bind fun es108 =>
      (findE s107 es108 0).bind fun o109 =>
      (asSl (valE (.slice none 0 none) o109)).bind fun s110 =>
      if (!(hasE o109)) = true then
      (((callP Try.prog keepT (n + 8)) Y 23 [(.int .i64 6)] h2 m0).bind fun r111 =>
      (asAgg 5 r111.1).bind fun d112 =>
      (asI .i64 (d112.getD 0 .bad)).bind fun n113 =>
      (asB (d112.getD 1 .bad)).bind fun t114 =>
      (asI .i64 (d112.getD 2 .bad)).bind fun n115 =>
      (asSl (d112.getD 3 .bad)).bind fun s116 =>
      (asSl (d112.getD 4 .bad)).bind fun s117 =>
      (stA r111.2.1 (nx + 1) 0 (.agg [(.int .i64 n113), (.bool t114), (.int .i64 n115), (.slice s116.1 s116.2.1 s116.2.2), (.slice s117.1 s117.2.1 s117.2.2)]) 5).bind fun b118 =>
      (ldR (AHeap.put r111.2.1 (nx + 1) (some b118)) (nx + 1) 0 5).bind fun l120 =>
      (asAgg 5 (AV.agg l120)).bind fun d121 =>
      (asI .i64 (d121.getD 0 .bad)).bind fun n122 =>
      (asB (d121.getD 1 .bad)).bind fun t123 =>
      (asI .i64 (d121.getD 2 .bad)).bind fun n124 =>
      (asSl (d121.getD 3 .bad)).bind fun s125 =>
      (asSl (d121.getD 4 .bad)).bind fun s126 =>
      some ((AV.agg [(.int .i64 n122), (.bool t123), (.int .i64 n124), (.slice s125.1 s125.2.1 s125.2.2), (.slice s126.1 s126.2.1 s126.2.2)]), (AHeap.put r111.2.1 (nx + 1) (some b118)), r111.2.2))
      else
      ((ldR h2 nx 0 8).bind fun l127 =>
      (asAgg 8 (AV.agg l127)).bind fun d128 =>
      (asI .i64 (d128.getD 0 .bad)).bind fun n129 =>
      (asStr (d128.getD 1 .bad)).bind fun s130 =>
      (asStr (d128.getD 2 .bad)).bind fun s131 =>
      (asI .i64 (d128.getD 3 .bad)).bind fun n132 =>
      (asI .i64 (d128.getD 4 .bad)).bind fun n133 =>
      (asI .i64 (d128.getD 5 .bad)).bind fun n134 =>
      (asI .i64 (d128.getD 6 .bad)).bind fun n135 =>
      (asSl (d128.getD 7 .bad)).bind fun s136 =>
      ((callP Try.prog keepT (n + 8)) Y 27 [(.ptr (some (S, 0))), (.slice s110.1 s110.2.1 s110.2.2), (.agg [(.int .i64 n129), (.str s130), (.str s131), (.int .i64 n132), (.int .i64 n133), (.int .i64 n134), (.int .i64 n135), (.slice s136.1 s136.2.1 s136.2.2)])] h2 m1).bind fun r137 =>
      (asAgg 5 r137.1).bind fun d138 =>
      (asI .i64 (d138.getD 0 .bad)).bind fun n139 =>
      (asB (d138.getD 1 .bad)).bind fun t140 =>
      (asI .i64 (d138.getD 2 .bad)).bind fun n141 =>
      (asSl (d138.getD 3 .bad)).bind fun s142 =>
      (asSl (d138.getD 4 .bad)).bind fun s143 =>
      (stA r137.2.1 (nx + 1) 0 (.agg [(.int .i64 n139), (.bool t140), (.int .i64 n141), (.slice s142.1 s142.2.1 s142.2.2), (.slice s143.1 s143.2.1 s143.2.2)]) 5).bind fun b144 =>
      (ldR (AHeap.put r137.2.1 (nx + 1) (some b144)) (nx + 1) 0 5).bind fun l146 =>
      (asAgg 5 (AV.agg l146)).bind fun d147 =>
      (asI .i64 (d147.getD 0 .bad)).bind fun n148 =>
      (asB (d147.getD 1 .bad)).bind fun t149 =>
      (asI .i64 (d147.getD 2 .bad)).bind fun n150 =>
      (asSl (d147.getD 3 .bad)).bind fun s151 =>
      (asSl (d147.getD 4 .bad)).bind fun s152 =>
      some ((AV.agg [(.int .i64 n148), (.bool t149), (.int .i64 n150), (.slice s151.1 s151.2.1 s151.2.2), (.slice s152.1 s152.2.1 s152.2.2)]), (AHeap.put r137.2.1 (nx + 1) (some b144)), r137.2.2))) := fun m0 m1 hm hm1 hk => by
    rw [show stepP s c = (match getO c.name s.obj with | none => (noT 6, s) | some x => objectP s x c) from by unfold stepP; rw [if_neg (by omega), if_neg (by omega), if_neg (by omega), if_neg (by omega), if_pos hk]; rfl]
    simp only [mst_, mst5_]
    rw [ld_at p2.st (show _ = some (AV.mapv (some o)) from rfl)]
    simp only [mst_, mst5_]
    rw [ld_at b1 (show _ = some (AV.str c.name) from rfl)]
    simp only [mst_, mst5_]
    obtain ⟨cs, e1, e2⟩ := p2.ob
    rw [mapO_at e1]
    simp only [mst_, mst5_]
    rcases find_ent c.name e2 0 with ⟨t1, t2, _⟩ | ⟨x, i0, v, t1, t2, ⟨ba, bc, rfl, s1, s2⟩, _, _⟩
    · rw [t2]
      simp only [mst_, mst5_]
      rw [show asSl (valE (.slice none 0 none) none) = some (none, 0, none) from rfl]
      simp only [mst_, mst5_]
      rw [if_pos (by rfl), t1]
      exact DoRes.no Y p (x2.le hm) hm b2 rfl _ rfl
    · rw [t2]
      simp only [mst_, mst5_]
      rw [show asSl (valE (.slice none 0 none) (some (0 + i0, .slice ba x.length bc))) = some (ba, x.length, bc) from by simp [valE, asSl]]
      simp only [mst_, mst5_]
      rw [if_neg (by simp [hasE]), ldr_all (n := 8) b1 rfl, t1]
      simp only [mst_, mst5_]
      have hx : x.length ≤ 1024 := (ok.obj _ (getO_mem t1)).2
      exact DoRes.tail (object_spec (by omega) Y (p.ext (x2.le hm1)) bc (s1.ext ((Ext.refl h2 (nx + 2)).le hm1)) hx c x5 x6 dc (sd.ext (x2.le hm1)) hk) (x2.le hm1) (by omega) (by omega) b2 rfl p
  rw [ld_at b1 (show _ = some (AV.int .i64 c.kind) from rfl), asI_int, some_bind]
  have tt : ∀ {x y : Int}, x = y → (x == y) = true := fun e => by rw [beq_iff_eq]; exact e
  have ff : ∀ {x y : Int}, x ≠ y → ¬ (x == y) = true := fun e => by rw [beq_iff_eq]; exact e
  by_cases k1 : c.kind = 1
  · rw [if_pos (tt k1)]
    simp only [mst_, mst5_]
    rw [ld_at p2.st (show _ = some (AV.mapv (some o)) from rfl)]
    simp only [mst_, mst5_]
    rw [ld_at b1 (show _ = some (AV.str c.name) from rfl)]
    simp only [mst_, mst5_]
    obtain ⟨h3, n3, r1, r2⟩ := room22 (n := n + 8) (by omega) Y (h := h2) (nx := nx + 14) (o := o) (by omega) (p.ext (x2.le (by omega : nx + 2 ≤ nx + 14))).ob hs1 4
    rw [show ((4 : Nat) : Int) = 4 from rfl] at r1
    rw [r1]
    simp only [mst_, mst5_]
    have hn3 : nx + 14 ≤ n3 := r2.1
    have x3 : Ext h nx h3 n3 := ⟨by omega, fun i hi => (r2.2 i (by omega)).trans (x2.2 i hi)⟩
    have p3 := p.ext x3
    by_cases e0 : roomP s.obj c.name 4 = 0
    · rw [if_neg (by rw [e0]; decide)]
      try simp only [mst_, mst5_]
      rw [ld_at p3.st (show _ = some (AV.mapv (some o)) from rfl)]
      simp only [mst_, mst5_]
      rw [ld_at ((r2.2 nx (by omega)).trans b1) (show _ = some (AV.str c.name) from rfl)]
      simp only [mst_, mst5_]
      rw [ld_at p3.st (show _ = some (AV.slice none 0 none) from rfl)]
      simp only [mst_, mst5_]
      obtain ⟨cs, e1, e2⟩ := p3.ob
      obtain ⟨cs', u1, u2⟩ := upd_ent (k := c.name) (x := ([] : List Int)) (v := .slice none 0 none) e2 (Byt.none _ _ _ _ _)
      rw [mapD_at e1]
      simp only [mst_, mst5_]
      rw [u1]
      simp only [mst_, mst5_]
      have hb : h3 (nx + 1) = some ⟨[.int .i64 0, .bool false, .int .i64 0, .slice none 0 none, .slice none 0 none], 5, true⟩ := (r2.2 _ (by omega)).trans b2
      rw [tail5l (show (AHeap.put _ o _) (nx + 1) = _ from (put_ne (by omega)).trans hb) rfl]
      rw [show stepP s c = (⟨0, 0, [], []⟩, { s with obj := setO c.name [] s.obj }) from by unfold stepP; rw [if_pos k1]; simp [e0, noT]]
      have f0 : Frm (fun i => i = o) h nx (h3.put o (some ⟨cs', MB, true⟩)) n3 := (x3.fr _).put (.inl rfl) (Nat.le_refl _)
      have f := f0.put (i := nx + 1) (b := some ⟨[.int .i64 0, .bool false, .int .i64 0, .slice none 0 none, .slice none 0 none], 5, true⟩) (m := n3 + 15) (.inr (by omega)) (by omega)
      have g : Frm (fun i => i = o ∨ i = nx + 1) h3 n3 ((h3.put o (some ⟨cs', MB, true⟩)).put (nx + 1) (some ⟨[.int .i64 0, .bool false, .int .i64 0, .slice none 0 none, .slice none 0 none], 5, true⟩)) (n3 + 15) :=
        ⟨by omega, fun i hi hd => by rw [put_ne (by omega), put_ne (by omega)]⟩
      refine DoRes.objs p f ⟨cs', by rw [put_ne (by omega), put_same], u2.mono fun w u ⟨u', q1, ba, bc, q2, s1, s2⟩ => ⟨u', q1, ba, bc, q2, s1.fr (fun hn pp ep q => ?_) g, s2⟩⟩ rfl
      rcases q with q | q
      · exact s2 hn pp ep (.inl (.inr (.inl q)))
      · obtain ⟨pb, bb, t1, t2, t3, t4, _⟩ := s1.2 0 hn
        rw [t1] at ep; obtain rfl := Option.some.inj ep
        rw [q, hb] at t3
        obtain rfl := Option.some.inj t3
        cases t4
    · rw [if_pos (by simpa using e0)]
      exact DoRes.no Y p (x3.le (by omega)) (by omega) ((r2.2 _ (by omega)).trans b2) rfl _ (by unfold stepP; rw [if_pos k1]; simp [e0])
  rw [if_neg (ff k1)]
  have keyT : ∀ (v : AV) (h3 : AHeap) (n3 m0 : Nat) (ns : List ByteArray), nx + 2 ≤ m0 → Ext h2 m0 h3 n3 → Txt h3 n3 (Old m0) v ns → ∀ z : Tld × Pl, z = (⟨0, 0, [], ns⟩, s) → ∃ na nc, v = .slice na ns.length nc ∧ ∀ r, r = some (AV.agg [.int .i64 0, .bool false, .int .i64 0, .slice none 0 none, .slice na ns.length nc], h3.put (nx + 1) (some ⟨[.int .i64 0, .bool false, .int .i64 0, .slice none 0 none, .slice na ns.length nc], 5, true⟩), n3) → DoRes X h nx S o k z.1 z.2 r :=
    fun v h3 n3 m0 ns hm x3 ⟨na, nc, e, s1, s2⟩ z hz => by
      refine ⟨na, nc, e, fun r hr => ?_⟩
      rw [hz]
      have hn3 := x3.1
      have x : Ext h nx h3 n3 := ⟨by omega, fun i hi => (x3.2 i (by omega)).trans (x2.2 i hi)⟩
      refine DoRes.same ⟨_, _, _, hr, x.put (by omega) (Nat.le_refl _), _, _, rfl, Byt.none _ _ _ _ _, na, nc, rfl, s1.fr (fun hn pp ep q => ?_) ((Frm.refl (fun i => i = nx + 1) h3 n3).put (.inl rfl) (Nat.le_refl _)), s2.less fun i q => by unfold Old at *; omega⟩ p
      exact s2 hn pp ep (by unfold Old; have q' : pp.1 = nx + 1 := q; omega)
  by_cases k6 : c.kind = 6
  · rw [if_pos (tt k6)]
    simp only [mst_, mst5_]
    rw [ld_at p2.st (show _ = some (AV.mapv (some o)) from rfl)]
    simp only [mst_, mst5_]
    obtain ⟨v, h3, n3, r1, r2, r3⟩ := keys_res (nx := nx + 15) p2.ob (fun x hx => by have := (ok.obj x hx).1; omega) (by have := ok.olen; omega)
    obtain ⟨na, nc, rfl, hd⟩ := keyT v h3 n3 (nx + 15) _ (by omega) r2 r3 (stepP s c) (by unfold stepP; rw [if_neg k1, if_pos k6])
    rw [show callP Try.prog keepT (n + 8) Y 24 [.mapv (some o)] h2 (nx + 15) = some (_, h3, n3) from (F24_eq ..).trans r1]
    simp only [mst_, mst5_]
    exact hd _ (tail5l ((r2.2 _ (by omega)).trans b2) rfl)
  rw [if_neg (ff k6)]
  by_cases k11 : c.kind = 11
  · rw [if_pos (tt k11)]
    simp only [mst_, mst5_]
    rw [ld_at p2.st (show _ = some (AV.mapv (some k)) from rfl)]
    simp only [mst_, mst5_]
    obtain ⟨v, h3, n3, r1, r2, r3⟩ := keys_res (nx := nx + 17) p2.sn (fun x hx => by have := (ok.snaps x hx).1; omega) (by have := ok.slen; omega)
    obtain ⟨na, nc, rfl, hd⟩ := keyT v h3 n3 (nx + 17) _ (by omega) r2 r3 (stepP s c) (by unfold stepP; rw [if_neg k1, if_neg k6, if_pos k11])
    rw [show callP Try.prog keepT (n + 8) Y 25 [.mapv (some k)] h2 (nx + 17) = some (_, h3, n3) from (F25_eq ..).trans r1]
    simp only [mst_, mst5_]
    exact hd _ (tail5l ((r2.2 _ (by omega)).trans b2) rfl)
  rw [if_neg (ff k11)]
  by_cases k7 : c.kind = 7
  · rw [if_pos (tt k7), if_pos (tt k7)]
    exact snp _ (by omega) (.inl k7)
  rw [if_neg (ff k7)]
  by_cases k8 : c.kind = 8
  · rw [if_pos (tt k8), if_pos (tt k8)]
    exact snp _ (by omega) (.inr (.inl k8))
  rw [if_neg (ff k8)]
  by_cases k9 : c.kind = 9
  · rw [if_pos (tt k9), if_pos (tt k9)]
    exact snp _ (by omega) (.inr (.inr (.inl k9)))
  rw [if_neg (ff k9)]
  by_cases k10 : c.kind = 10
  · rw [if_pos (tt k10)]
    exact snp _ (by omega) (.inr (.inr (.inr k10)))
  rw [if_neg (ff k10)]
  by_cases k2 : c.kind = 2
  · rw [if_pos (tt k2), if_pos (tt k2)]
    exact obj _ _ (by omega) (by omega) (.inl k2)
  rw [if_neg (ff k2)]
  by_cases k3 : c.kind = 3
  · rw [if_pos (tt k3), if_pos (tt k3)]
    exact obj _ _ (by omega) (by omega) (.inr (.inl k3))
  rw [if_neg (ff k3)]
  by_cases k4 : c.kind = 4
  · rw [if_pos (tt k4), if_pos (tt k4)]
    exact obj _ _ (by omega) (by omega) (.inr (.inr (.inl k4)))
  rw [if_neg (ff k4)]
  by_cases k5 : c.kind = 5
  · rw [if_pos (tt k5)]
    exact obj _ _ (by omega) (by omega) (.inr (.inr (.inr k5)))
  rw [if_neg (ff k5)]
  have hstep : stepP s c = if c.kind = 12 then (noT 0, s) else (noT 3, s) := by unfold stepP; rw [if_neg k1, if_neg k6, if_neg k11, if_neg (by omega), if_neg (by omega)]
  by_cases k12 : c.kind = 12
  · rw [if_pos (tt k12), hstep, if_pos k12, tail5l b2 rfl]
    exact DoRes.same ⟨_, _, _, rfl, x2.put (by omega) (by omega), ToldR.no _ _ _ _⟩ p
  · rw [if_neg (ff k12), hstep, if_neg k12]
    exact DoRes.no (z := (noT 3, s)) Y p (x2.le (by omega)) (by omega) b2 rfl _ rfl
end Go.Proofs.Ytncmdbpoceilgaa.T
