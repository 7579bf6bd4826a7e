/- Pools: the same told; begun. -/
import Derived.Test.YtncmdbpoceilgaaP9
set_option linter.unusedVariables false
set_option linter.unusedSimpArgs false
namespace Go.Proofs.Ytncmdbpoceilgaa.T
open Go Go.RowKit Go.Proofs
set_option maxRecDepth 10000

theorem bytes_loop (call : YldF → CallF) (Y : YldF) (lf : Nat) {h : AHeap} {nx1 nx2 : Nat} {a b : Option (Nat × Nat)} (ac bc : Option Nat) {bs : List Int} (s1 : Sl h nx1 a bs.length 1 (ints .u8 bs)) (s2 : Sl h nx2 b bs.length 1 (ints .u8 bs)) (hl : bs.length ≤ 1000000) :
    ∀ (k n0 i nx : Nat), bs.length = i + k → k < n0 → ∃ nx', F18_L1 call Y lf n0 a bs.length ac b bs.length bc (i : Int) h nx = some (.bool true, h, nx') ∧ nx ≤ nx'
  | 0, n0 + 1, i, nx, hk, _ => by
    rw [F18_L1_eq, if_neg (by simp; omega)]; exact ⟨_, rfl, by omega⟩
  | k + 1, n0 + 1, i, nx, hk, hn => by
    rw [F18_L1_eq, if_pos (by simp; omega), s1.readI (by omega)]
    simp only [mst_, mst5_]
    rw [s2.readI (by omega)]
    simp only [mst_, mst5_]
    rw [if_neg (by simp), wsucc (by omega)]
    obtain ⟨nx', e, l⟩ := bytes_loop call Y lf ac bc s1 s2 hl k n0 (i + 1) (nx + 16) (by omega) (by omega)
    exact ⟨nx', e, by omega⟩
theorem texts_loop (call : YldF → CallF) (Y : YldF) (lf : Nat) {h : AHeap} {nx1 nx2 : Nat} {a b : Option (Nat × Nat)} (ac bc : Option Nat) {ns : List ByteArray} (s1 : Sl h nx1 a ns.length 1 (ns.map AV.str)) (s2 : Sl h nx2 b ns.length 1 (ns.map AV.str)) (hl : ns.length ≤ 1000000) :
    ∀ (k n0 i nx : Nat), ns.length = i + k → k < n0 → ∃ nx', F19_L1 call Y lf n0 a ns.length ac b ns.length bc (i : Int) h nx = some (.bool true, h, nx') ∧ nx ≤ nx'
  | 0, n0 + 1, i, nx, hk, _ => by
    rw [F19_L1_eq, if_neg (by simp; omega)]; exact ⟨_, rfl, by omega⟩
  | k + 1, n0 + 1, i, nx, hk, hn => by
    have hi : i < ns.length := by omega
    have hg : (ns.map AV.str)[Int.toNat (i : Int) * 1]? = some (.str ns[i]) := by
      rw [Int.toNat_natCast, Nat.mul_one, List.getElem?_map, List.getElem?_eq_getElem hi]; rfl
    rw [F19_L1_eq, if_pos (by simp; omega), s1.read0 (by omega) (by omega) (by omega) hg]
    simp only [mst_, mst5_]
    rw [s2.read0 (by omega) (by omega) (by omega) hg]
    simp only [mst_, mst5_]
    rw [if_neg (by simp), wsucc (by omega)]
    obtain ⟨nx', e, l⟩ := texts_loop call Y lf ac bc s1 s2 hl k n0 (i + 1) (nx + 16) (by omega) (by omega)
    exact ⟨nx', e, by omega⟩

/-- SameTold, of what is told alike. -/
theorem same_told {n : Nat} (hn : 5000 ≤ n) (Y : YldF) {h : AHeap} {nx : Nat} {t : Tld} {r1 r2 : List AV} {A1 A2 : Nat → Prop} (w1 : ToldR h nx A1 t r1) (w2 : ToldR h nx A2 t r2) (hd : t.data.length ≤ 2000) (hm : t.names.length ≤ 2000) :
    ∃ h' nx', callP Try.prog keepT n Y 13 [.agg r1, .agg r2] h nx = some (.bool true, h', nx') ∧ Ext h nx h' nx' := by
  obtain ⟨n, rfl⟩ : ∃ m, n = m + 2 := ⟨n - 2, by omega⟩
  obtain ⟨_, _, rfl, ⟨da, dc, rfl, d1, _⟩, ⟨ua, uc, rfl, u1, _⟩⟩ := w1
  obtain ⟨_, _, rfl, ⟨ea, ec, rfl, e1, _⟩, ⟨va, vc, rfl, v1, _⟩⟩ := w2
  rw [F13_eq]
  dsimp only
  obtain ⟨h2, hh2⟩ : ∃ h2, h2 = AHeap.put (AHeap.put h nx (some ⟨[.int .i64 t.code, .bool false, .int .i64 t.size, .slice da t.data.length dc, .slice ua t.names.length uc], 5, true⟩)) (nx + 1) (some ⟨[.int .i64 t.code, .bool false, .int .i64 t.size, .slice ea t.data.length ec, .slice va t.names.length vc], 5, true⟩) := ⟨_, rfl⟩
  rw [← hh2]
  have b1 : h2 nx = some ⟨[.int .i64 t.code, .bool false, .int .i64 t.size, .slice da t.data.length dc, .slice ua t.names.length uc], 5, true⟩ := by rw [hh2, put_ne (by omega), put_same]
  have b2 : h2 (nx + 1) = some ⟨[.int .i64 t.code, .bool false, .int .i64 t.size, .slice ea t.data.length ec, .slice va t.names.length vc], 5, true⟩ := by rw [hh2, put_same]
  have x2 : Ext h nx h2 (nx + 2) := by rw [hh2]; exact ((Ext.refl h nx).put (m' := nx + 1) (by omega) (by omega)).put (by omega) (by omega)
  clear hh2
  rw [ld_at b1 (show _ = some (AV.int .i64 t.code) from rfl)]
  simp only [mst_, mst5_]
  rw [ld_at b2 (show _ = some (AV.int .i64 t.code) from rfl)]
  simp only [mst_, mst5_]
  rw [if_pos (by simp), ld_at b1 (show _ = some (AV.bool false) from rfl)]
  simp only [mst_, mst5_]
  rw [ld_at b2 (show _ = some (AV.bool false) from rfl)]
  simp only [mst_, mst5_]
  rw [if_pos (by simp), ld_at b1 (show _ = some (AV.int .i64 t.size) from rfl)]
  simp only [mst_, mst5_]
  rw [ld_at b2 (show _ = some (AV.int .i64 t.size) from rfl)]
  simp only [mst_, mst5_]
  rw [if_pos (by simp), ld_at b1 (show _ = some (AV.slice da t.data.length dc) from rfl)]
  simp only [mst_, mst5_]
  rw [ld_at b2 (show _ = some (AV.slice ea t.data.length ec) from rfl)]
  simp only [mst_, mst5_]
  rw [F18_eq, if_neg (by simp)]
  obtain ⟨n3, g1, g2⟩ := bytes_loop (callP Try.prog keepT n) Y n dc ec (d1.ext x2) (e1.ext x2) (by omega) t.data.length n 0 (nx + 37 + 7) (by omega) (by omega)
  rw [show ((0 : Nat) : Int) = 0 from rfl] at g1
  rw [g1]
  simp only [mst_, mst5_]
  rw [if_pos trivial, ld_at b1 (show _ = some (AV.slice ua t.names.length uc) from rfl)]
  simp only [mst_, mst5_]
  rw [ld_at b2 (show _ = some (AV.slice va t.names.length vc) from rfl)]
  simp only [mst_, mst5_]
  rw [F19_eq, if_neg (by simp)]
  obtain ⟨n4, g3, g4⟩ := texts_loop (callP Try.prog keepT n) Y n uc vc (u1.ext x2) (v1.ext x2) (by omega) t.names.length n 0 (n3 + 7) (by omega) (by omega)
  rw [show ((0 : Nat) : Int) = 0 from rfl] at g3
  rw [g3]
  simp only [mst_, mst5_]
  exact ⟨_, _, rfl, x2.le (by omega)⟩

/-! ### begun -/
def nA : ByteArray := ByteArray.mk #[97]
def nE : ByteArray := ByteArray.mk #[]
def begunC : List Cmd := [⟨1, nA, nE, 0, 0, []⟩, ⟨2, nA, nE, 0, 0, [5]⟩, ⟨3, nA, nE, 0, 9, []⟩]
theorem begun_play : playP s0 begunC = [⟨0, 0, [], []⟩, ⟨0, 1, [], []⟩, ⟨0, 1, [5], []⟩] := by
  have g : goodName nA = true := by decide
  have r : roomP ([] : Objs) nA 4 = 0 := by simp [roomP, g, getO]
  simp [begunC, playP, stepP, s0, r, setO, getO, objectP, writeP, wideP, fetchP, noT]

theorem begun_spec {n : Nat} (hn : 2000 ≤ n) (Y : YldF) (h : AHeap) (nx : Nat) : ∃ h' nx', callP Try.prog keepT n Y 12 [] h nx = some (.bool true, h', nx') ∧ Ext h nx h' nx' := by
  obtain ⟨n, rfl⟩ : ∃ m, n = m + 2 := ⟨n - 2, by omega⟩
  rw [F12_eq]
  dsimp only
  obtain ⟨h1, hh1⟩ : ∃ h1, h1 = AHeap.put h (nx + 2) (some ⟨[(.int .u8 5)], 1, true⟩) := ⟨_, rfl⟩
  rw [← hh1]
  have b1 : h1 (nx + 2) = some ⟨ints .u8 [5], 1, true⟩ := by rw [hh1, put_same]; rfl
  have x1 : Ext h nx h1 (nx + 5) := by rw [hh1]; exact (Ext.refl h nx).put (by omega) (by omega)
  clear hh1
  have q : ∀ (h2 : AHeap), h2 = h1.put (nx + 5) (some ⟨[cmdV ⟨1, nA, nE, 0, 0, []⟩ 0 0 none none, cmdV ⟨2, nA, nE, 0, 0, [5]⟩ 0 0 (some (nx + 2, 0)) (some 1), cmdV ⟨3, nA, nE, 0, 9, []⟩ 0 0 none none].flatten, 8, true⟩) → Rows (CmdR h2 (nx + 12) fun _ => False) h2 (nx + 12) (fun _ => False) (some (nx + 5, 0)) 8 begunC := fun h2 e => by
    have hb : h2 (nx + 2) = some ⟨ints .u8 [5], 1, true⟩ := by rw [e, put_ne (by omega)]; exact b1
    have nil : ∀ (c : Cmd), c.data = [] → CmdR h2 (nx + 12) (fun _ => False) c (cmdV c 0 0 none none) := fun c hc => ⟨0, 0, none, none, rfl, by rw [hc]; exact ⟨rfl, fun j hj => by simp at hj⟩, fun _ _ _ q => q⟩
    refine ⟨_, ⟨_, _, rfl, nil _ rfl, _, _, rfl, ⟨0, 0, some (nx + 2, 0), some 1, rfl, Sl.block hb (by omega), fun _ _ _ q => q⟩, _, _, rfl, nil _ rfl, rfl⟩, ?_, ⟨rfl, fun j hj => ⟨(nx + 5, 0), _, rfl, by simp, by rw [e, put_same], rfl, by simp [begunC, cmdV], fun q hq => by simp⟩⟩, fun _ _ _ q => q⟩
    intro r hr
    simp only [List.mem_cons, List.not_mem_nil, or_false] at hr
    rcases hr with rfl | rfl | rfl <;> rfl
  obtain ⟨h2, hh2⟩ : ∃ h2, h2 = h1.put (nx + 5) (some ⟨[cmdV ⟨1, nA, nE, 0, 0, []⟩ 0 0 none none, cmdV ⟨2, nA, nE, 0, 0, [5]⟩ 0 0 (some (nx + 2, 0)) (some 1), cmdV ⟨3, nA, nE, 0, 9, []⟩ 0 0 none none].flatten, 8, true⟩) := ⟨_, rfl⟩
  have x2 : Ext h nx h2 (nx + 12) := by rw [hh2]; exact x1.put (by omega) (by omega)
  have rows := q h2 hh2
  obtain ⟨a, ac, h', nx', g1, g2, g3, _⟩ := pooled_spec (n := n + 1) (by omega) Y (some 3) rows (by simp [begunC]) (fun c hc => by
    simp only [begunC, List.mem_cons, List.not_mem_nil, or_false] at hc
    rcases hc with rfl | rfl | rfl <;> exact ⟨by decide, by decide⟩)
  rw [begun_play] at g1 g3
  have g1' : callP Try.prog keepT (n + 1) Y 11 [.slice (some (nx + 5, 0)) 3 (some 3)] h2 (nx + 12) = some (.tuple [.slice a 3 ac, .bool true], h', nx') := g1
  have hh2' : h2 = h1.put (nx + 5) (some ⟨[(.int .i64 1), (.str (ByteArray.mk #[97])), (.str (ByteArray.mk #[])), (.int .i64 0), (.int .i64 0), (.int .i64 0), (.int .i64 0), (.slice none 0 none), (.int .i64 2), (.str (ByteArray.mk #[97])), (.str (ByteArray.mk #[])), (.int .i64 0), (.int .i64 0), (.int .i64 0), (.int .i64 0), (.slice (some (nx + 2, 0)) 1 (some 1)), (.int .i64 3), (.str (ByteArray.mk #[97])), (.str (ByteArray.mk #[])), (.int .i64 0), (.int .i64 9), (.int .i64 0), (.int .i64 0), (.slice none 0 none)], 8, true⟩) := hh2
  rw [← hh2', g1']
  simp only [mst_, mst5_]
  have rows3 := g3.rows (A := fun _ => False) fun _ _ q => q
  obtain ⟨r, ⟨d, u, rfl, ⟨ba, bc, rfl, d1, d2⟩, _⟩, _, _, hrd0⟩ := rows3.read (R := AV × AHeap × Nat) (i := 2) (x := ⟨0, 1, [5], []⟩) rfl
  have hrd : ∀ (f : Nat) (v : AV) (K : AV → Option (AV × AHeap × Nat)), f < 5 → ([AV.int .i64 0, AV.bool false, AV.int .i64 1, AV.slice ba 1 bc, u] : List AV)[f]? = some v → (a.bind fun p => if 0 ≤ (2 : Int) ∧ (2 : Int) < ((3 : Nat) : Int) then (ldA h' p.1 (p.2 + Int.toNat 2 * 5 + f)).bind K else none) = K v := fun f v K hf hv => hrd0 f v K hf hv
  have rd : ∀ K : AV → Option (AV × AHeap × Nat), (ba.bind fun p => if 0 ≤ (0 : Int) ∧ (0 : Int) < ((1 : Nat) : Int) then (ldA h' p.1 (p.2 + Int.toNat 0 * 1)).bind K else none) = K (.int .u8 5) := fun K => d1.readI (i := 0) (by simp) K
  rw [if_pos trivial, hrd 2 (.int .i64 1) _ (by omega) rfl]
  simp only [mst_, mst5_]
  rw [if_pos (by rfl), hrd 3 (.slice ba 1 bc) _ (by omega) rfl]
  simp only [mst_, mst5_]
  rw [if_pos (by rfl), hrd 3 (.slice ba 1 bc) _ (by omega) rfl]
  simp only [mst_, mst5_]
  rw [rd]
  simp only [mst_, mst5_]
  exact ⟨_, _, rfl, ⟨by have := x2.1; have := g2.1; omega, fun i hi => (g2.2 i (by have := x2.1; omega)).trans (x2.2 i hi)⟩⟩
end Go.Proofs.Ytncmdbpoceilgaa.T
