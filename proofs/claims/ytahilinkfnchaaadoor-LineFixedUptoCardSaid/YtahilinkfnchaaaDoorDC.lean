/- Desk: Tell. -/
import Derived.Test.YtahilinkfnchaaaDoorDB
set_option linter.unusedVariables false
set_option linter.unusedSimpArgs false
namespace Go.Proofs.YtahilinkfnchaaaDoor.T
open Go Go.RowKit Go.Proofs
set_option maxRecDepth 10000

def okW : List UInt8 := [111, 107]
def noW : List UInt8 := [110, 111]
def doneW : List UInt8 := [100, 111, 110, 101]
def headW (t : Tld) : List (List UInt8) := if t.code = 0 then [okW] else [noW, Lib.itoa t.code]
def midW (t : Tld) : List (List UInt8) := headW t ++ [Lib.itoa t.size, hexL t.data]
def tellW (t : Tld) : List (List UInt8) := midW t ++ (if t.done = true then [doneW] else []) ++ t.names.map (·.data.toList)
def tellP (t : Tld) : Option (List UInt8) := if t.code < 0 then none else if t.size < 0 then none else if t.names.any oddN then none else some (joinW (tellW t))
/-- What Tell hands back. -/
def toldV (o : Option (List UInt8)) : AV := .tuple [.str (B (o.getD [])), .int .i64 (if o.isSome then 0 else 4)]

/-- What Told lies in memory. -/
def ToldIn (h : AHeap) (m i : Nat) (t : Tld) (o da ea : Option (Nat × Nat)) (dc ec : Option Nat) : Prop :=
  o = some (i, 0) ∧ h i = some ⟨[.int .i64 t.code, .bool t.done, .int .i64 t.size, .slice da (ob t.data).length dc, .slice ea t.names.length ec], 5, true⟩ ∧ Sl h m da (ob t.data).length 1 (ints .u8 (ob t.data)) ∧ Sl h m ea t.names.length 1 (t.names.map AV.str)

theorem strB (ws : List (List UInt8)) : (ws.map B).map (·.data.toList) = ws := by
  rw [List.map_map]
  conv => rhs; rw [← List.map_id ws]
  exact List.map_congr_left fun w _ => B_data w
theorem srcOne {h : AHeap} {i : Nat} {v : AV} : srcS (AHeap.put h i (some ⟨[v], 1, true⟩)) (some (i, 0)) 1 1 = some (1, [v], [i]) := by simp [srcS]
theorem srcTwo {h : AHeap} {i : Nat} {v w : AV} : srcS (AHeap.put h i (some ⟨[v, w], 1, true⟩)) (some (i, 0)) 2 1 = some (2, [v, w], [i]) := by simp [srcS]

/-- The last step: the names, and all joined. -/
theorem tell3 (m : Nat) (Y : YldF) (lf : Nat) {h : AHeap} {nx0 nx i : Nat} {t : Tld} {da ea : Option (Nat × Nat)} {dc ec : Option Nat} {a : Option (Nat × Nat)} (c : Option Nat) {ws : List (List UInt8)} (hi : i < nx0) (ti : h i = some ⟨[.int .i64 t.code, .bool t.done, .int .i64 t.size, .slice da (ob t.data).length dc, .slice ea t.names.length ec], 5, true⟩)
    (u : Sl h nx0 ea t.names.length 1 (t.names.map AV.str)) (w : OwnSl h nx0 nx a ws.length 1 ((ws.map B).map AV.str)) (h0 : nx0 ≤ nx) (hw : ws.length ≤ 100) (hl : t.names.length ≤ 100000000) (hj : (joinW (ws ++ t.names.map (·.data.toList))).length ≤ 140737488355328) :
    ∃ h' nx', F8_J3 (callP Tryd.prog keepT (m + 1)) Y lf (some (i, 0)) a ws.length c h nx = some (toldV (some (joinW (ws ++ t.names.map (·.data.toList)))), h', nx') ∧ Ext h nx0 h' nx' := by
  rw [F8_J3_eq]
  simp only [mst_, mst5_]
  rw [ld_at ti (show _ = some (AV.slice ea t.names.length ec) from rfl)]
  simp only [mst_, mst5_]
  obtain ⟨rd, e1⟩ := u.src'
  rw [e1]
  simp only [mst_, mst5_]
  obtain ⟨e, f1, f2, f3, f4, f5⟩ := w.appendS c (bytes := 16) (id := nx + 3) (k := t.names.length) (ws := t.names.map AV.str) (rd := rd) (by simp) (growOk_of (by omega) (by omega)) h0 (by omega)
  rw [f1]
  simp only [mst_, mst5_]
  rw [← List.map_append] at f3
  rw [f2, join_spec m Y f3.sl (by rw [List.map_append, strB]; exact hj) (by simp; omega)]
  simp only [mst_, mst5_]
  rw [List.map_append, strB]
  exact ⟨_, _, rfl, f4.le (by omega)⟩
/-- The middle: size, data, done. -/
theorem tell2 (m : Nat) (Y : YldF) (lf : Nat) {h : AHeap} {nx0 nx i : Nat} {t : Tld} {da ea : Option (Nat × Nat)} {dc ec : Option Nat} {a : Option (Nat × Nat)} (c : Option Nat) (hi : i < nx0) (ti : h i = some ⟨[.int .i64 t.code, .bool t.done, .int .i64 t.size, .slice da (ob t.data).length dc, .slice ea t.names.length ec], 5, true⟩)
    (d : Sl h nx0 da (ob t.data).length 1 (ints .u8 (ob t.data))) (u : Sl h nx0 ea t.names.length 1 (t.names.map AV.str)) (w : OwnSl h nx0 nx a (headW t).length 1 (((headW t).map B).map AV.str)) (h0 : nx0 ≤ nx) (hl : t.names.length ≤ 100000000) (hs1 : -9223372036854775808 ≤ t.size) (hs2 : t.size ≤ 9223372036854775807) (hd : t.data.length ≤ 100000000) (hj : (joinW (tellW t)).length ≤ 140737488355328) :
    ∃ h' nx', F8_J2 (callP Tryd.prog keepT (m + 1)) Y lf (some (i, 0)) a (headW t).length c h nx = some (toldV (some (joinW (tellW t))), h', nx') ∧ Ext h nx0 h' nx' := by
  have hhl : (headW t).length ≤ 2 := by unfold headW; split <;> simp
  rw [F8_J2_eq]
  simp only [mst_, mst5_]
  rw [ld_at ti (show _ = some (AV.int .i64 t.size) from rfl)]
  simp only [mst_, mst5_]
  rw [itoa_spec m Y hs1 hs2]
  simp only [mst_, mst5_]
  rw [ld_at ti (show _ = some (AV.slice da (ob t.data).length dc) from rfl)]
  simp only [mst_, mst5_]
  rw [hex_spec m Y d (by omega)]
  simp only [mst_, mst5_]
  rw [srcTwo]
  simp only [mst_, mst5_]
  have w' := (w.put (id := nx + 7) (nx' := nx + 8) (b := some ⟨[.str (B (Lib.itoa t.size)), .str (B (hexL t.data))], 1, true⟩) (by omega) (by omega))
  obtain ⟨e, f1, f2, f3, f4, f5⟩ := w'.appendS c (bytes := 16) (id := nx + 8) (k := 2) (ws := [.str (B (Lib.itoa t.size)), .str (B (hexL t.data))]) (rd := [nx + 7]) rfl (growOk_of (by omega) (by omega)) (by omega) (by omega)
  rw [f1]
  simp only [mst_, mst5_]
  have hc : ((headW t).map B).map AV.str ++ [.str (B (Lib.itoa t.size)), .str (B (hexL t.data))] = ((midW t).map B).map AV.str := by simp [midW]
  rw [hc] at f3
  have hn : (headW t).length + 2 = (midW t).length := by simp [midW]
  rw [f2, hn]
  rw [hn] at f3
  have x1 : Ext h nx0 (AHeap.puts (h.put (nx + 7) (some ⟨[.str (B (Lib.itoa t.size)), .str (B (hexL t.data))], 1, true⟩)) e.sets) (nx + 9) := by
    exact ⟨by omega, fun j hj => (f4.2 j hj).trans (put_ne (by omega))⟩
  generalize hh : AHeap.puts (h.put (nx + 7) (some ⟨[.str (B (Lib.itoa t.size)), .str (B (hexL t.data))], 1, true⟩)) e.sets = h1 at *
  rw [ifKept_pos (show AllKept [(h, h, [i])] from ⟨fun _ _ => rfl, trivial⟩)]
  have ti1 := (x1.2 i hi).trans ti
  have u1 := u.ext (h' := h1) (nx' := nx0) ⟨Nat.le_refl _, x1.2⟩
  rw [ld_at ti1 (show _ = some (AV.bool t.done) from rfl)]
  simp only [mst_, mst5_]
  have hmid : (midW t).length ≤ 100 := by omega
  cases hdn : t.done
  · rw [if_neg (by simp)]
    have ht : tellW t = midW t ++ t.names.map (·.data.toList) := by unfold tellW; rw [hdn]; simp
    rw [ht]
    rw [ht] at hj
    obtain ⟨h', nx', g1, g2⟩ := tell3 m Y lf (t := t) e.c hi ti1 u1 (f3.le (show nx + 8 + 1 ≤ nx + 10 + 2 by omega)) (by omega) hmid hl hj
    exact ⟨h', nx', g1, ⟨g2.1, fun j hj => (g2.2 j hj).trans (x1.2 j hj)⟩⟩
  · rw [if_pos rfl, srcOne]
    simp only [mst_, mst5_]
    have w2 := (f3.put (id := nx + 10 + 3) (nx' := nx + 10 + 4) (b := some ⟨[.str (ByteArray.mk #[100, 111, 110, 101])], 1, true⟩) (by omega) (by omega))
    obtain ⟨e2, k1, k2, k3, k4, k5⟩ := w2.appendS e.c (bytes := 16) (id := nx + 10 + 4) (k := 1) (ws := [.str (ByteArray.mk #[100, 111, 110, 101])]) (rd := [nx + 10 + 3]) rfl (growOk_of (by omega) (by omega)) (by omega) (by omega)
    rw [k1]
    simp only [mst_, mst5_]
    have hc2 : ((midW t).map B).map AV.str ++ [.str (ByteArray.mk #[100, 111, 110, 101])] = ((midW t ++ [doneW]).map B).map AV.str := by simp [doneW, B]
    rw [hc2] at k3
    have hn2 : (midW t).length + 1 = (midW t ++ [doneW]).length := by simp
    rw [k2, hn2]
    rw [hn2] at k3
    have x2 : Ext h1 nx0 (AHeap.puts (h1.put (nx + 10 + 3) (some ⟨[.str (ByteArray.mk #[100, 111, 110, 101])], 1, true⟩)) e2.sets) (nx + 10 + 5) :=
      ⟨by omega, fun j hj => (k4.2 j hj).trans (put_ne (by omega))⟩
    have ht : tellW t = (midW t ++ [doneW]) ++ t.names.map (·.data.toList) := by unfold tellW; rw [hdn]; simp
    rw [ht]
    rw [ht] at hj
    obtain ⟨h', nx', g1, g2⟩ := tell3 m Y lf (t := t) e2.c hi ((x2.2 i hi).trans ti1) (u1.ext (nx' := nx0) ⟨Nat.le_refl _, x2.2⟩) (k3.le (show nx + 10 + 4 + 1 ≤ nx + 10 + 6 by omega)) (by omega) (by simp; omega) hl hj
    exact ⟨h', nx', g1, ⟨g2.1, fun j hj => (g2.2 j hj).trans ((x2.2 j hj).trans (x1.2 j hj))⟩⟩

structure Tld.Small (t : Tld) (n : Nat) : Prop where
  c1 : -9223372036854775808 ≤ t.code
  c2 : t.code ≤ 9223372036854775807
  s1 : -9223372036854775808 ≤ t.size
  s2 : t.size ≤ 9223372036854775807
  d : t.data.length ≤ 100000000
  l : t.names.length + 10 ≤ n
  l2 : t.names.length ≤ 100000000
  m : ∀ x ∈ t.names, x.size + 10 ≤ n ∧ x.size ≤ 1000000000
  j : (joinW (tellW t)).length ≤ 140737488355328

theorem tell_spec {n : Nat} (hn : 10 ≤ n) (Y : YldF) {h : AHeap} {nx : Nat} {A : Nat → Prop} {t : Tld} {r : List AV} (w : ToldR h nx A t r) (z : t.Small n) :
    ∃ h' nx', callP Tryd.prog keepT n Y 8 [.agg r] h nx = some (toldV (tellP t), h', nx') ∧ Ext h nx h' nx' := by
  obtain ⟨n, rfl⟩ : ∃ m, n = m + 3 := ⟨n - 3, by omega⟩
  obtain ⟨_, _, rfl, ⟨da, dc, rfl, d, _⟩, ⟨ea, ec, rfl, u, _⟩⟩ := w
  rw [F8_eq]
  dsimp only
  generalize hh : AHeap.put h nx _ = h1
  have ti : h1 nx = some ⟨[.int .i64 t.code, .bool t.done, .int .i64 t.size, .slice da (ob t.data).length dc, .slice ea t.names.length ec], 5, true⟩ := by rw [← hh, put_same]
  have x1 : Ext h nx h1 (nx + 1) := by rw [← hh]; exact (Ext.refl h nx).put (by omega) (by omega)
  clear hh
  unfold tellP
  rw [ld_at ti (show _ = some (AV.int .i64 t.code) from rfl)]
  simp only [mst_, mst5_]
  by_cases c1 : t.code < 0
  · rw [if_pos (by simpa using c1), if_pos c1]; exact ⟨h1, _, rfl, x1.le (by omega)⟩
  rw [if_neg (by simpa using c1), if_neg c1, ld_at ti (show _ = some (AV.int .i64 t.size) from rfl)]
  simp only [mst_, mst5_]
  by_cases c2 : t.size < 0
  · rw [if_pos (by simpa using c2), if_pos c2]; exact ⟨h1, _, rfl, x1.le (by omega)⟩
  rw [if_neg (by simpa using c2), if_neg c2, ld_at ti (show _ = some (AV.slice ea t.names.length ec) from rfl)]
  simp only [mst_, mst5_]
  have d1 := d.ext x1
  have u1 := u.ext x1
  obtain ⟨h2, n2, g1, g2⟩ := odds_spec (n := n + 2) Y ec (ns := t.names) (fun x hx => ⟨by have := (z.m x hx).1; omega, (z.m x hx).2⟩) (by have := z.l2; omega) (by have := z.l; omega) (u1.ext ⟨show nx + 1 ≤ nx + 18 by omega, fun _ _ => rfl⟩)
  rw [g1]
  simp only [mst_, mst5_]
  cases ho : t.names.any oddN
  · rw [if_neg (by simp), F8_J1_eq]
    simp only [mst_, mst5_]
    have x2 : Ext h1 (nx + 1) h2 n2 := g2.from (by omega)
    have ti2 := (x2.2 nx (by omega)).trans ti
    generalize hh3 : AHeap.put h2 n2 (some ⟨[.str (ByteArray.mk #[111, 107])], 1, true⟩) = h3
    have x3 : Ext h2 (nx + 1) h3 (n2 + 1) := by rw [← hh3]; exact ⟨by have := x2.1; omega, fun j hj => put_ne (by have := x2.1; omega)⟩
    have ti3 := (x3.2 nx (by omega)).trans ti2
    have d3 := (d1.ext ⟨Nat.le_refl _, x2.2⟩).ext (nx' := nx + 1) ⟨Nat.le_refl _, x3.2⟩
    have u3 := (u1.ext ⟨Nat.le_refl _, x2.2⟩).ext (nx' := nx + 1) ⟨Nat.le_refl _, x3.2⟩
    have b3 : h3 n2 = some ⟨[.str (ByteArray.mk #[111, 107])], 1, true⟩ := by rw [← hh3, put_same]
    clear hh3
    rw [ld_at ti3 (show _ = some (AV.int .i64 t.code) from rfl)]
    simp only [mst_, mst5_]
    have hn2 : nx + 1 ≤ n2 := x2.1
    by_cases c3 : t.code = 0
    · rw [if_neg (by simp [c3])]
      have hd : headW t = [okW] := by unfold headW; rw [if_pos c3]
      have hw : OwnSl h3 (nx + 1) (n2 + 5) (some (n2, 0)) (headW t).length 1 (((headW t).map B).map AV.str) := by
        rw [hd]
        exact ⟨rfl, .inr ⟨n2, rfl, by omega, by omega, b3⟩⟩
      obtain ⟨h', nx', k1, k2⟩ := tell2 (n + 1) Y (n + 2) (t := t) (some 1) (show nx < nx + 1 by omega) ti3 d3 u3 hw (by omega) z.l2 z.s1 z.s2 z.d z.j
      rw [hd] at k1
      exact ⟨h', nx', k1, ((x1.trans' x2).trans' x3).trans' k2⟩
    · rw [if_pos (by simpa using c3), ld_at ti3 (show _ = some (AV.int .i64 t.code) from rfl)]
      simp only [mst_, mst5_]
      rw [itoa_spec (n + 1) Y z.c1 z.c2]
      simp only [mst_, mst5_]
      have hd : headW t = [noW, Lib.itoa t.code] := by unfold headW; rw [if_neg c3]
      generalize hh4 : AHeap.put h3 (n2 + 8) (some ⟨[.str (ByteArray.mk #[110, 111]), .str (B (Lib.itoa t.code))], 1, true⟩) = h4
      have x4 : Ext h3 (nx + 1) h4 (n2 + 9) := by rw [← hh4]; exact ⟨by omega, fun j hj => put_ne (by omega)⟩
      have b4 : h4 (n2 + 8) = some ⟨[.str (ByteArray.mk #[110, 111]), .str (B (Lib.itoa t.code))], 1, true⟩ := by rw [← hh4, put_same]
      have hw : OwnSl h4 (nx + 1) (n2 + 10) (some (n2 + 8, 0)) (headW t).length 1 (((headW t).map B).map AV.str) := by
        rw [hd]
        exact ⟨rfl, .inr ⟨n2 + 8, rfl, by omega, by omega, b4⟩⟩
      obtain ⟨h', nx', k1, k2⟩ := tell2 (n + 1) Y (n + 2) (t := t) (some 2) (show nx < nx + 1 by omega) ((x4.2 nx (by omega)).trans ti3) (d3.ext (nx' := nx + 1) ⟨Nat.le_refl _, x4.2⟩) (u3.ext (nx' := nx + 1) ⟨Nat.le_refl _, x4.2⟩) hw (by omega) z.l2 z.s1 z.s2 z.d z.j
      rw [hd] at k1
      exact ⟨h', nx', k1, (((x1.trans' x2).trans' x3).trans' x4).trans' k2⟩
  · rw [if_pos rfl, if_pos rfl]
    exact ⟨h2, _, rfl, (x1.trans' (g2.from (show nx + 1 ≤ nx + 18 by omega))).le (by omega)⟩
end Go.Proofs.YtahilinkfnchaaaDoor.T
