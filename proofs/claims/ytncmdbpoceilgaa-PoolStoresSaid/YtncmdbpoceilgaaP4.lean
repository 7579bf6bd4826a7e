/- Pools: fetch, room. -/
import Derived.Test.YtncmdbpoceilgaaP3
set_option linter.unusedVariables false
set_option linter.unusedSimpArgs false
namespace Go.Proofs.Ytncmdbpoceilgaa.T
open Go Go.RowKit Go.Proofs
set_option maxRecDepth 10000

theorem mapD_at {h : AHeap} {o : Nat} {cs : List AV} (e : h o = some ⟨cs, MB, true⟩) : mapD h o = some cs := by
  unfold mapD; rw [e]; rfl
theorem mapO_at {h : AHeap} {o : Nat} {cs : List AV} (e : h o = some ⟨cs, MB, true⟩) : mapO h (some o) = some cs := mapD_at e
def cmdV (c : Cmd) (x5 x6 : Int) (da : Option (Nat × Nat)) (dc : Option Nat) : List AV := [.int .i64 c.kind, .str c.name, .str c.other, .int .i64 c.off, .int .i64 c.count, .int .i64 x5, .int .i64 x6, .slice da c.data.length dc]

theorem fetch_spec {n : Nat} (hn : 5 ≤ n) (Y : YldF) {h : AHeap} {nx : Nat} {a : Option (Nat × Nat)} (cc : Option Nat) {bs : List Int} (s : Sl h nx a bs.length 1 (ints .u8 bs)) (hl : bs.length ≤ 1024) (c : Cmd) (x5 x6 : Int) (da : Option (Nat × Nat)) (dc : Option Nat) :
    ∃ row h' nx', callP Try.prog keepT n Y 34 [.slice a bs.length cc, .agg (cmdV c x5 x6 da dc)] h nx = some (.agg row, h', nx') ∧ Ext h nx h' nx' ∧ ToldR h' nx' (Old nx) (fetchP bs c) row := by
  obtain ⟨n, rfl⟩ : ∃ m, n = m + 4 := ⟨n - 4, by omega⟩
  unfold cmdV
  rw [F34_eq]
  dsimp only
  obtain ⟨h2, hh2⟩ : ∃ h2, h2 = AHeap.put (AHeap.put h nx (some ⟨[.int .i64 c.kind, .str c.name, .str c.other, .int .i64 c.off, .int .i64 c.count, .int .i64 x5, .int .i64 x6, .slice da c.data.length dc], 8, true⟩)) (nx + 1) (some ⟨[.int .i64 0, .bool false, .int .i64 0, .slice none 0 none, .slice none 0 none], 5, true⟩) := ⟨_, rfl⟩
  rw [← hh2]
  have b1 : h2 nx = some ⟨[.int .i64 c.kind, .str c.name, .str c.other, .int .i64 c.off, .int .i64 c.count, .int .i64 x5, .int .i64 x6, .slice da c.data.length dc], 8, true⟩ := by rw [hh2, put_ne (by omega), put_same]
  have b2 : h2 (nx + 1) = some ⟨[.int .i64 0, .bool false, .int .i64 0, .slice none 0 none, .slice none 0 none], 5, true⟩ := by rw [hh2, put_same]
  have x2 : Ext h nx h2 (nx + 2) := by rw [hh2]; exact ((Ext.refl h nx).put (m' := nx + 1) (by omega) (by omega)).put (by omega) (by omega)
  clear hh2
  rw [ld_at b1 (show _ = some (AV.int .i64 c.off) from rfl)]
  simp only [mst_, mst5_]
  have no : ∀ (m0 : Nat), nx + 2 ≤ m0 → Ext h nx ((h2.put m0 (some ⟨[.int .i64 2, .bool false, .int .i64 0, .slice none 0 none, .slice none 0 none], 5, true⟩)).put (nx + 1) (some ⟨[.int .i64 2, .bool false, .int .i64 0, .slice none 0 none, .slice none 0 none], 5, true⟩)) (m0 + 4) := fun m0 hm =>
    (x2.put (by omega) (by omega)).put (by omega) (by omega)
  by_cases c1 : c.off < 0
  · rw [if_pos (by simpa using c1), tail5 (no_eq _ Y 2 h2 (nx + 12)) (show (h2.put (nx + 12) _) (nx + 1) = _ from (put_ne (by omega)).trans b2) rfl]
    rw [show fetchP bs c = noT 2 from by simp [fetchP, c1]]
    exact ⟨_, _, _, rfl, no _ (by omega), ToldR.no _ _ _ _⟩
  · rw [if_neg (by simpa using c1), ld_at b1 (show _ = some (AV.int .i64 c.count) from rfl)]
    simp only [mst_, mst5_]
    by_cases c2 : c.count < 0
    · rw [if_pos (by simpa using c2), tail5 (no_eq _ Y 2 h2 (nx + 12)) (show (h2.put (nx + 12) _) (nx + 1) = _ from (put_ne (by omega)).trans b2) rfl]
      rw [show fetchP bs c = noT 2 from by simp [fetchP, c1, c2]]
      exact ⟨_, _, _, rfl, no _ (by omega), ToldR.no _ _ _ _⟩
    · rw [if_neg (by simpa using c2), F34_J1_eq]
      simp only [mst_, mst5_]
      rw [ld_at b1 (show _ = some (AV.int .i64 c.off) from rfl)]
      simp only [mst_, mst5_]
      rw [ld_at b1 (show _ = some (AV.int .i64 c.count) from rfl)]
      simp only [mst_, mst5_]
      have ho : c.off = ((c.off.toNat : Nat) : Int) := by omega
      have hk : c.count = ((c.count.toNat : Nat) : Int) := by omega
      obtain ⟨v, h', nx', e1, e2, ⟨va, vc, rfl, e3, e4⟩⟩ := read_spec (n + 1) Y cc (s.ext (x2.le (by omega : nx + 2 ≤ nx + 10 + 12))) (by omega) c.off.toNat c.count.toNat
      rw [← ho, ← hk] at e1
      rw [e1]
      simp only [mst_, mst5_]
      rw [if_neg (by simp), size_spec]
      simp only [mst_, mst5_]
      have b2' : h' (nx + 1) = some ⟨[.int .i64 0, .bool false, .int .i64 0, .slice none 0 none, .slice none 0 none], 5, true⟩ := (e2.2 _ (by omega)).trans b2
      rw [tail5l b2' rfl, show fetchP bs c = ⟨0, bs.length, (bs.drop c.off.toNat).take c.count.toNat, []⟩ from by simp [fetchP, c1, c2]]
      have x3 : Ext h nx h' nx' := ⟨by have := e2.1; omega, fun i hi => by rw [e2.2 i (by omega)]; exact x2.2 i hi⟩
      have f3 : Frm (fun j => j = nx + 1) h' nx' (h'.put (nx + 1) (some ⟨[.int .i64 0, .bool false, .int .i64 bs.length, .slice va ((bs.drop c.off.toNat).take c.count.toNat).length vc, .slice none 0 none], 5, true⟩)) (nx' + 8 + 4) := (Frm.refl _ h' nx').put (.inl rfl) (by omega)
      refine ⟨_, _, _, rfl, x3.put (by omega) (by omega), _, _, rfl, Byt.go ⟨va, vc, rfl, e3, e4⟩ f3 (fun j hj q => ?_) (fun j hj q => ?_), Txt.none _ _ _ _ _⟩
      · unfold Old; omega
      · unfold Old at *; omega

theorem room22 {n : Nat} (hn : 1011 ≤ n) (Y : YldF) {h : AHeap} {nx o : Nat} (ho : o < nx) {l : Objs} {A : Nat → Prop} (m : MapM (RB h nx A) h o l) {s : ByteArray} (hs : s.size ≤ 1000) (most : Nat) :
    ∃ h' nx', callP Try.prog keepT n Y 22 [.mapv (some o), .str s, .int .i64 (most : Int)] h nx = some (.int .i64 (roomP l s most), h', nx') ∧ Ext h nx h' nx' := by
  obtain ⟨n, rfl⟩ : ∃ m, n = m + 1 := ⟨n - 1, by omega⟩
  obtain ⟨cs, e1, e2⟩ := m
  rw [F22_eq, mapO_at e1]
  simp only [mst_, mst5_]
  obtain ⟨fo, ff, fh, sa, sn, sc, fs⟩ : ∃ fo, findE s cs 0 = some fo ∧ hasE fo = (getO s l).isSome ∧ ∃ sa sn sc, valE (.slice none 0 none) fo = .slice sa sn sc := by
    rcases find_ent s e2 0 with ⟨q1, q2, _⟩ | ⟨x, j, v, q1, q2, ⟨va, vc, rfl, _⟩, _⟩
    · exact ⟨_, q2, by rw [q1]; rfl, _, _, _, rfl⟩
    · exact ⟨_, q2, by rw [q1]; rfl, _, _, _, rfl⟩
  rw [ff]
  simp only [mst_, mst5_]
  rw [fs]
  simp only [mst_, mst5_]
  obtain ⟨h', nx', g1, g2⟩ := name_spec (n := n) (by omega) Y hs h (nx + 13)
  rw [g1]
  simp only [mst_, mst5_]
  have x : Ext h nx h' nx' := ⟨by have := g2.1; omega, fun i hi => g2.2 i (by omega)⟩
  unfold roomP
  by_cases c1 : goodName s = false
  · rw [if_pos (by simp [c1]), if_pos c1]; exact ⟨_, _, rfl, x.le (by omega)⟩
  · rw [if_neg (by simp [c1]), if_neg c1, fh]
    by_cases c2 : (getO s l).isSome = true
    · rw [if_pos c2, if_pos c2]; exact ⟨_, _, rfl, x.le (by omega)⟩
    · rw [if_neg c2, if_neg c2, mapO_at ((g2.2 o (by omega)).trans e1)]
      simp only [mst_, mst5_]
      rw [e2.len]
      by_cases c3 : l.length = most
      · rw [if_pos (by simp [c3]), if_pos c3]; exact ⟨_, _, rfl, x.le (by omega)⟩
      · rw [if_neg (by simp; omega), if_neg c3]; exact ⟨_, _, rfl, x.le (by omega)⟩

theorem room32 {n : Nat} (hn : 1011 ≤ n) (Y : YldF) {h : AHeap} {nx o : Nat} (ho : o < nx) {l : List (ByteArray × Objs)} {A : Nat → Prop} (m : MapM (RM h nx A) h o l) {s : ByteArray} (hs : s.size ≤ 1000) (most : Nat) :
    ∃ h' nx', callP Try.prog keepT n Y 32 [.mapv (some o), .str s, .int .i64 (most : Int)] h nx = some (.int .i64 (roomP l s most), h', nx') ∧ Ext h nx h' nx' := by
  obtain ⟨n, rfl⟩ : ∃ m, n = m + 1 := ⟨n - 1, by omega⟩
  obtain ⟨cs, e1, e2⟩ := m
  rw [F32_eq, mapO_at e1]
  simp only [mst_, mst5_]
  obtain ⟨fo, ff, fh, sa, fs⟩ : ∃ fo, findE s cs 0 = some fo ∧ hasE fo = (getO s l).isSome ∧ ∃ sa, valE (.mapv none) fo = .mapv sa := by
    rcases find_ent s e2 0 with ⟨q1, q2, _⟩ | ⟨x, j, v, q1, q2, ⟨va, rfl, _⟩, _⟩
    · exact ⟨_, q2, by rw [q1]; rfl, _, rfl⟩
    · exact ⟨_, q2, by rw [q1]; rfl, _, rfl⟩
  rw [ff]
  simp only [mst_, mst5_]
  rw [fs]
  simp only [mst_, mst5_]
  obtain ⟨h', nx', g1, g2⟩ := name_spec (n := n) (by omega) Y hs h (nx + 13)
  rw [g1]
  simp only [mst_, mst5_]
  have x : Ext h nx h' nx' := ⟨by have := g2.1; omega, fun i hi => g2.2 i (by omega)⟩
  unfold roomP
  by_cases c1 : goodName s = false
  · rw [if_pos (by simp [c1]), if_pos c1]; exact ⟨_, _, rfl, x.le (by omega)⟩
  · rw [if_neg (by simp [c1]), if_neg c1, fh]
    by_cases c2 : (getO s l).isSome = true
    · rw [if_pos c2, if_pos c2]; exact ⟨_, _, rfl, x.le (by omega)⟩
    · rw [if_neg c2, if_neg c2, mapO_at ((g2.2 o (by omega)).trans e1)]
      simp only [mst_, mst5_]
      rw [e2.len]
      by_cases c3 : l.length = most
      · rw [if_pos (by simp [c3]), if_pos c3]; exact ⟨_, _, rfl, x.le (by omega)⟩
      · rw [if_neg (by simp; omega), if_neg c3]; exact ⟨_, _, rfl, x.le (by omega)⟩
end Go.Proofs.Ytncmdbpoceilgaa.T
