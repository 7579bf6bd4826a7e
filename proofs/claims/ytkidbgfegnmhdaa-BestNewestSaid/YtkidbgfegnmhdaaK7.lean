/- Labels: labels that may be, out of any numbers; LabelBack. -/
import Derived.Test.YtkidbgfegnmhdaaK6
set_option linter.unusedVariables false
set_option linter.unusedSimpArgs false
namespace Go.Proofs.Ytkidbgfegnmhdaa.T
open Go Go.RowKit Go.Proofs

structure Tg where
  pool : Int
  drive : Int
  drives : Int
  parity : Int
  time : Int
  addr : Int
  count : Int
  bytes : Int
  s0 : Int
  s1 : Int
  s2 : Int
  s3 : Int
def Tg.row (t : Tg) : List AV := [.int .i64 t.pool, .int .i64 t.drive, .int .i64 t.drives, .int .i64 t.parity, .int .i64 t.time, .int .i64 t.addr, .int .i64 t.count, .int .i64 t.bytes, .int .i64 t.s0, .int .i64 t.s1, .int .i64 t.s2, .int .i64 t.s3]
def drivesT (t : Tg) : Int := 2 + pickL t.drives 7
def minP (d : Int) : Int := if d - 1 < 3 then d - 1 else 3
def labelOf (t : Tg) : Lb := ⟨1 + pickL t.pool 1048576, pickL t.drive (drivesT t), drivesT t, 1 + pickL t.parity (minP (drivesT t)), pickL t.time 1048577, pickL t.addr 65537, pickL t.count 33, pickL t.bytes (pickL t.count 33 * 128 + 1), pickL t.addr (pickL t.time 1048577 + 1), t.s0, t.s1, t.s2, t.s3⟩
theorem drivesT_in (t : Tg) : 2 ≤ drivesT t ∧ drivesT t ≤ 8 := by have := pickL_in (x := t.drives) (n := 7) (by omega); unfold drivesT; omega
theorem minP_in {d : Int} (h : 2 ≤ d ∧ d ≤ 8) : 1 ≤ minP d ∧ minP d ≤ 3 := by unfold minP; split <;> omega
theorem labelOf_may (t : Tg) : (labelOf t).may := by
  have h1 := pickL_in (x := t.pool) (n := 1048576) (by omega)
  have h2 := drivesT_in t
  have h3 := pickL_in (x := t.drive) (n := drivesT t) (by omega)
  have h4 := minP_in h2
  have h5 := pickL_in (x := t.parity) (n := minP (drivesT t)) (by omega)
  have h6 := pickL_in (x := t.time) (n := 1048577) (by omega)
  have h7 := pickL_in (x := t.addr) (n := 65537) (by omega)
  have h8 := pickL_in (x := t.count) (n := 33) (by omega)
  have h9 := pickL_in (x := t.bytes) (n := pickL t.count 33 * 128 + 1) (by omega)
  have h10 := pickL_in (x := t.addr) (n := pickL t.time 1048577 + 1) (by omega)
  unfold Lb.may labelOf
  refine ⟨⟨by simp only; omega, by simp only; omega⟩, h2, ⟨h3.1, by simp only; omega⟩, ⟨by simp only; omega, ?_⟩, ⟨h6.1, by simp only; omega⟩, ⟨h7.1, by simp only; omega⟩, ⟨h8.1, by simp only; omega⟩, ⟨h9.1, by simp only; omega⟩, ⟨h10.1, by simp only; omega⟩⟩
  show 1 + pickL t.parity (minP (drivesT t)) ≤ minP (drivesT t)
  omega

theorem agg12 (a b c d e f g h i j k l : AV) : asAgg 12 (.agg [a, b, c, d, e, f, g, h, i, j, k, l]) = some [a, b, c, d, e, f, g, h, i, j, k, l] := asAgg_mk (by simp)
theorem ag13 (x : Lb) (K : List AV → Option Res) : (asAgg 13 (AV.agg x.row)).bind K = K x.row := by rw [asAgg_mk (n := 13) rfl, some_bind]
theorem ag12 (x : Tg) (K : List AV → Option Res) : (asAgg 12 (AV.agg x.row)).bind K = K x.row := by rw [asAgg_mk (n := 12) rfl, some_bind]
/-- A label that is taken apart and put together. -/
theorem rowK (x : Lb) (K : List AV → Option Res) : ((asI .i64 (x.row.getD 0 .bad)).bind fun n39 => (asI .i64 (x.row.getD 1 .bad)).bind fun n40 => (asI .i64 (x.row.getD 2 .bad)).bind fun n41 => (asI .i64 (x.row.getD 3 .bad)).bind fun n42 => (asI .i64 (x.row.getD 4 .bad)).bind fun n43 => (asI .i64 (x.row.getD 5 .bad)).bind fun n44 => (asI .i64 (x.row.getD 6 .bad)).bind fun n45 => (asI .i64 (x.row.getD 7 .bad)).bind fun n46 => (asI .i64 (x.row.getD 8 .bad)).bind fun n47 => (asI .i64 (x.row.getD 9 .bad)).bind fun n48 => (asI .i64 (x.row.getD 10 .bad)).bind fun n49 => (asI .i64 (x.row.getD 11 .bad)).bind fun n50 => (asI .i64 (x.row.getD 12 .bad)).bind fun n51 =>
      K [(.int .i64 n39), (.int .i64 n40), (.int .i64 n41), (.int .i64 n42), (.int .i64 n43), (.int .i64 n44), (.int .i64 n45), (.int .i64 n46), (.int .i64 n47), (.int .i64 n48), (.int .i64 n49), (.int .i64 n50), (.int .i64 n51)]) = K x.row := by
  unfold Lb.row
  simp only [mst_, mstL]

theorem two_tail {h : AHeap} {rb : Nat} {cs : List AV} (hb : h rb = some ⟨cs, 13, true⟩) (hc : cs.length = 13) (x : Lb) (c : Nat) {P : Option Res → Prop}
    (fin : P (some (.agg x.row, h.put rb (some ⟨x.row, 13, true⟩), c))) :
    P ((stA h rb 0 (.agg x.row) 13).bind fun b => (ldR (h.put rb (some b)) rb 0 13).bind fun l => (asAgg 13 (AV.agg l)).bind fun d => (asI .i64 (d.getD 0 .bad)).bind fun n0 => (asI .i64 (d.getD 1 .bad)).bind fun n1 => (asI .i64 (d.getD 2 .bad)).bind fun n2 => (asI .i64 (d.getD 3 .bad)).bind fun n3 => (asI .i64 (d.getD 4 .bad)).bind fun n4 => (asI .i64 (d.getD 5 .bad)).bind fun n5 => (asI .i64 (d.getD 6 .bad)).bind fun n6 => (asI .i64 (d.getD 7 .bad)).bind fun n7 => (asI .i64 (d.getD 8 .bad)).bind fun n8 => (asI .i64 (d.getD 9 .bad)).bind fun n9 => (asI .i64 (d.getD 10 .bad)).bind fun n10 => (asI .i64 (d.getD 11 .bad)).bind fun n11 => (asI .i64 (d.getD 12 .bad)).bind fun n12 => some ((.agg [(.int .i64 n0), (.int .i64 n1), (.int .i64 n2), (.int .i64 n3), (.int .i64 n4), (.int .i64 n5), (.int .i64 n6), (.int .i64 n7), (.int .i64 n8), (.int .i64 n9), (.int .i64 n10), (.int .i64 n11), (.int .i64 n12)]), h.put rb (some b), c)) := by
  rw [st_all hb (n := 13) rfl hc (by rfl), ldr_all (put_same _ _ _) (n := 13) rfl, ag13]
  unfold Lb.row at fin ⊢
  simp only [mst_, mstL]
  exact fin

theorem labelOf_spec {f : Nat} (hf : 3 ≤ f) (t : Tg) (h : AHeap) (nx : Nat) : ∃ h' nx', callP Try.prog keepT f Y0 7 [.agg t.row] h nx = some (.agg (labelOf t).row, h', nx') ∧ Ext h nx h' nx' := by
  obtain ⟨f, rfl⟩ : ∃ m, f = m + 1 := ⟨f - 1, by omega⟩
  have h2 := drivesT_in t
  have h4 := minP_in h2
  have P1 := pickL_in (x := t.pool) (n := 1048576) (by omega)
  have P2 := pickL_in (x := t.drives) (n := 7) (by omega)
  have P3 := pickL_in (x := t.time) (n := 1048577) (by omega)
  have P5 := pickL_in (x := t.parity) (n := minP (drivesT t)) (by omega)
  have P8 := pickL_in (x := t.count) (n := 33) (by omega)
  show ∃ h' nx', callP Try.prog keepT (f + 1) Y0 7 [.agg [.int .i64 t.pool, .int .i64 t.drive, .int .i64 t.drives, .int .i64 t.parity, .int .i64 t.time, .int .i64 t.addr, .int .i64 t.count, .int .i64 t.bytes, .int .i64 t.s0, .int .i64 t.s1, .int .i64 t.s2, .int .i64 t.s3]] h nx = _ ∧ _
  rw [F7_eq]
  dsimp only
  generalize hh2 : (h.put nx _).put (nx + 1) _ = h2'
  have e0 : h2' nx = some ⟨[.int .i64 t.pool, .int .i64 t.drive, .int .i64 t.drives, .int .i64 t.parity, .int .i64 t.time, .int .i64 t.addr, .int .i64 t.count, .int .i64 t.bytes, .int .i64 t.s0, .int .i64 t.s1, .int .i64 t.s2, .int .i64 t.s3], 12, true⟩ := by rw [← hh2, put_ne (by omega), put_same]
  have e1 : h2' (nx + 1) = some ⟨lb0.row, 13, true⟩ := by rw [← hh2, put_same]; rfl
  have x0 : ∀ i, i < nx → h2' i = h i := fun i hi => by rw [← hh2, put_ne (by omega), put_ne (by omega)]
  rw [ld_at e0 (v := .int .i64 t.pool) rfl]
  simp only [mst_]
  rw [picked_spec (f := f) (by omega) Y0 t.pool 1048576 (by omega) (by omega)]
  simp only [mst_]
  rw [ld_at e0 (v := .int .i64 t.drives) rfl]
  simp only [mst_]
  rw [picked_spec (f := f) (by omega) Y0 t.drives 7 (by omega) (by omega)]
  simp only [mst_]
  rw [ld_at e0 (v := .int .i64 t.time) rfl]
  simp only [mst_]
  rw [picked_spec (f := f) (by omega) Y0 t.time 1048577 (by omega) (by omega)]
  simp only [mst_]
  rw [st_all (put_same h2' (nx + 14) _) (by simp) (by simp) (by simp [allOne, AV.one]), put_put]
  rw [ifApart_pos (by
      simp only [AllApart]
      refine ⟨fun x hx => ?_, fun x hx => ?_, fun x hx => ?_, trivial⟩ <;> simp at hx ⊢ <;> omega),
    ifKept_pos (by exact ⟨fun _ _ => rfl, fun _ _ => rfl, fun _ _ => rfl, trivial⟩),
    ifRob_pos (by
      refine ⟨fun ss _ => ?_, fun ss _ => ?_, fun ss _ => ?_, trivial⟩
      · rw [callC_fn, picked_spec (f := f) (by omega) Y0 t.pool 1048576 (by omega) (by omega)]
      · rw [callC_fn, picked_spec (f := f) (by omega) Y0 t.drives 7 (by omega) (by omega)]
      · rw [callC_fn, picked_spec (f := f) (by omega) Y0 t.time 1048577 (by omega) (by omega)])]
  rw [show wrapA .i64 (1 + pickL t.pool 1048576) = 1 + pickL t.pool 1048576 from wA (by omega) (by omega), show wrapA .i64 (2 + pickL t.drives 7) = drivesT t from wA (by omega) (by omega)]
  generalize hh3 : h2'.put (nx + 14) _ = h3
  have f0 : h3 nx = some ⟨[.int .i64 t.pool, .int .i64 t.drive, .int .i64 t.drives, .int .i64 t.parity, .int .i64 t.time, .int .i64 t.addr, .int .i64 t.count, .int .i64 t.bytes, .int .i64 t.s0, .int .i64 t.s1, .int .i64 t.s2, .int .i64 t.s3], 12, true⟩ := by rw [← hh3, put_ne (by omega)]; exact e0
  have f14 : h3 (nx + 14) = some ⟨[.int .i64 (1 + pickL t.pool 1048576), .int .i64 0, .int .i64 (drivesT t), .int .i64 0, .int .i64 (pickL t.time 1048577), .int .i64 0, .int .i64 0, .int .i64 0, .int .i64 0, .int .i64 0, .int .i64 0, .int .i64 0, .int .i64 0], 13, true⟩ := by rw [← hh3, put_same]
  have f1 : h3 (nx + 1) = some ⟨lb0.row, 13, true⟩ := by rw [← hh3, put_ne (by omega)]; exact e1
  have x3 : ∀ i, i < nx → h3 i = h i := fun i hi => by rw [← hh3, put_ne (by omega), x0 i hi]
  rw [ld_at f0 (v := .int .i64 t.drive) rfl]
  simp only [mst_]
  rw [ld_at f14 (v := .int .i64 (drivesT t)) rfl]
  simp only [mst_]
  rw [picked_spec (f := f) (by omega) Y0 t.drive (drivesT t) (by omega) (by omega)]
  simp only [mst_]
  rw [st_to f14 (cs' := [.int .i64 (1 + pickL t.pool 1048576), .int .i64 (pickL t.drive (drivesT t)), .int .i64 (drivesT t), .int .i64 0, .int .i64 (pickL t.time 1048577), .int .i64 0, .int .i64 0, .int .i64 0, .int .i64 0, .int .i64 0, .int .i64 0, .int .i64 0, .int .i64 0]) rfl (by simp) rfl]
  generalize hh4 : h3.put (nx + 14) _ = h4
  have g14 : h4 (nx + 14) = some ⟨[.int .i64 (1 + pickL t.pool 1048576), .int .i64 (pickL t.drive (drivesT t)), .int .i64 (drivesT t), .int .i64 0, .int .i64 (pickL t.time 1048577), .int .i64 0, .int .i64 0, .int .i64 0, .int .i64 0, .int .i64 0, .int .i64 0, .int .i64 0, .int .i64 0], 13, true⟩ := by rw [← hh4, put_same]
  have y4 : ∀ i, i ≠ nx + 14 → h4 i = h3 i := fun i hi => by rw [← hh4, put_ne hi]
  have g0 := (y4 nx (by omega)).trans f0
  rw [ld_at g0 (v := .int .i64 t.parity) rfl]
  simp only [mst_]
  rw [ld_at g14 (v := .int .i64 (drivesT t)) rfl]
  simp only [mst_]
  have hm : (if wrapA .i64 (drivesT t - 1) < 3 then wrapA .i64 (drivesT t - 1) else 3) = minP (drivesT t) := by rw [wA (by omega) (by omega)]; rfl
  rw [hm, picked_spec (f := f) (by omega) Y0 t.parity (minP (drivesT t)) (by omega) (by omega)]
  simp only [mst_]
  rw [show wrapA .i64 (1 + pickL t.parity (minP (drivesT t))) = 1 + pickL t.parity (minP (drivesT t)) from wA (by omega) (by omega)]
  rw [st_to g14 (cs' := [.int .i64 (1 + pickL t.pool 1048576), .int .i64 (pickL t.drive (drivesT t)), .int .i64 (drivesT t), .int .i64 (1 + pickL t.parity (minP (drivesT t))), .int .i64 (pickL t.time 1048577), .int .i64 0, .int .i64 0, .int .i64 0, .int .i64 0, .int .i64 0, .int .i64 0, .int .i64 0, .int .i64 0]) rfl (by simp) rfl]
  generalize hh5 : h4.put (nx + 14) _ = h5
  have i14 : h5 (nx + 14) = some ⟨[.int .i64 (1 + pickL t.pool 1048576), .int .i64 (pickL t.drive (drivesT t)), .int .i64 (drivesT t), .int .i64 (1 + pickL t.parity (minP (drivesT t))), .int .i64 (pickL t.time 1048577), .int .i64 0, .int .i64 0, .int .i64 0, .int .i64 0, .int .i64 0, .int .i64 0, .int .i64 0, .int .i64 0], 13, true⟩ := by rw [← hh5, put_same]
  have y5 : ∀ i, i ≠ nx + 14 → h5 i = h3 i := fun i hi => by rw [← hh5, put_ne hi, y4 i hi]
  have i0 := (y5 nx (by omega)).trans f0
  rw [ld_at i0 (v := .int .i64 t.addr) rfl]
  simp only [mst_]
  rw [picked_spec (f := f) (by omega) Y0 t.addr 65537 (by omega) (by omega)]
  simp only [mst_]
  rw [ld_at i0 (v := .int .i64 t.count) rfl]
  simp only [mst_]
  rw [picked_spec (f := f) (by omega) Y0 t.count 33 (by omega) (by omega)]
  simp only [mst_]
  rw [ld_at i0 (v := .int .i64 t.addr) rfl]
  simp only [mst_]
  rw [ld_at i14 (v := .int .i64 (pickL t.time 1048577)) rfl]
  simp only [mst_]
  rw [show wrapA .i64 (pickL t.time 1048577 + 1) = pickL t.time 1048577 + 1 from wA (by omega) (by omega), picked_spec (f := f) (by omega) Y0 t.addr (pickL t.time 1048577 + 1) (by omega) (by omega)]
  simp only [mst_]
  rw [ldr_at i0 (by simp)]
  rw [show (([.int .i64 t.pool, .int .i64 t.drive, .int .i64 t.drives, .int .i64 t.parity, .int .i64 t.time, .int .i64 t.addr, .int .i64 t.count, .int .i64 t.bytes, .int .i64 t.s0, .int .i64 t.s1, .int .i64 t.s2, .int .i64 t.s3] : List AV).drop 8).take 4 = [.int .i64 t.s0, .int .i64 t.s1, .int .i64 t.s2, .int .i64 t.s3] from rfl]
  simp only [mst_]
  rw [st_at (n := 8) i14 (by rfl) (by simp [AV.cells]) (by simp [AV.cells, allOne, AV.one])]
  rw [show splice ([.int .i64 (1 + pickL t.pool 1048576), .int .i64 (pickL t.drive (drivesT t)), .int .i64 (drivesT t), .int .i64 (1 + pickL t.parity (minP (drivesT t))), .int .i64 (pickL t.time 1048577), .int .i64 0, .int .i64 0, .int .i64 0, .int .i64 0, .int .i64 0, .int .i64 0, .int .i64 0, .int .i64 0] : List AV) 5 (AV.agg [.int .i64 (pickL t.addr 65537), .int .i64 (pickL t.count 33), .int .i64 0, .int .i64 (pickL t.addr (pickL t.time 1048577 + 1)), .int .i64 t.s0, .int .i64 t.s1, .int .i64 t.s2, .int .i64 t.s3]).cells =
    [.int .i64 (1 + pickL t.pool 1048576), .int .i64 (pickL t.drive (drivesT t)), .int .i64 (drivesT t), .int .i64 (1 + pickL t.parity (minP (drivesT t))), .int .i64 (pickL t.time 1048577), .int .i64 (pickL t.addr 65537), .int .i64 (pickL t.count 33), .int .i64 0, .int .i64 (pickL t.addr (pickL t.time 1048577 + 1)), .int .i64 t.s0, .int .i64 t.s1, .int .i64 t.s2, .int .i64 t.s3] from rfl]
  rw [ifKept_pos (by exact ⟨fun _ _ => rfl, fun _ _ => rfl, fun _ _ => rfl, fun _ _ => rfl, fun _ _ => rfl, fun _ _ => rfl, fun _ _ => rfl, fun _ _ => rfl, trivial⟩)]
  generalize hh6 : h5.put (nx + 14) _ = h6
  have j14 : h6 (nx + 14) = some ⟨[.int .i64 (1 + pickL t.pool 1048576), .int .i64 (pickL t.drive (drivesT t)), .int .i64 (drivesT t), .int .i64 (1 + pickL t.parity (minP (drivesT t))), .int .i64 (pickL t.time 1048577), .int .i64 (pickL t.addr 65537), .int .i64 (pickL t.count 33), .int .i64 0, .int .i64 (pickL t.addr (pickL t.time 1048577 + 1)), .int .i64 t.s0, .int .i64 t.s1, .int .i64 t.s2, .int .i64 t.s3], 13, true⟩ := by rw [← hh6, put_same]
  have y6 : ∀ i, i ≠ nx + 14 → h6 i = h3 i := fun i hi => by rw [← hh6, put_ne hi, y5 i hi]
  have j0 := (y6 nx (by omega)).trans f0
  rw [ld_at j0 (v := .int .i64 t.bytes) rfl]
  simp only [mst_]
  rw [ld_at j14 (v := .int .i64 (pickL t.count 33)) rfl]
  simp only [mst_]
  have hw : wrapA .i64 (wrapA .i64 (pickL t.count 33 * 128) + 1) = pickL t.count 33 * 128 + 1 := by rw [wA (x := pickL t.count 33 * 128) (by omega) (by omega), wA (by omega) (by omega)]
  rw [hw, picked_spec (f := f) (by omega) Y0 t.bytes (pickL t.count 33 * 128 + 1) (by omega) (by omega)]
  simp only [mst_]
  rw [st_to j14 (cs' := (labelOf t).row) rfl (by simp) rfl]
  have k1 : (h6.put (nx + 14) (some ⟨(labelOf t).row, 13, true⟩)) (nx + 1) = some ⟨lb0.row, 13, true⟩ := by rw [put_ne (by omega), y6 _ (by omega)]; exact f1
  have xf : ∀ i, i < nx → (h6.put (nx + 14) (some ⟨(labelOf t).row, 13, true⟩)) i = h i := fun i hi => by rw [put_ne (by omega), y6 i (by omega), x3 i hi]
  rw [ldr_all (put_same _ _ _) (n := 13) rfl, ag13]
  generalize labelOf t = X at *
  generalize h6.put (nx + 14) (some ⟨X.row, 13, true⟩) = h7 at *
  unfold Lb.row
  simp only [mst_, mstL]
  refine two_tail (P := fun r => ∃ h' nx', r = some (.agg X.row, h', nx') ∧ Ext h nx h' nx') k1 rfl X _ ⟨_, _, rfl, ⟨?_, fun i hi => ?_⟩⟩
  · omega
  · rw [put_ne (by omega), xf i hi]

end Go.Proofs.Ytkidbgfegnmhdaa.T
