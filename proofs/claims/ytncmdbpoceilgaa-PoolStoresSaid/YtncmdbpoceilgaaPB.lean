/- Pools: what commands are made of. -/
import Derived.Test.YtncmdbpoceilgaaPA
set_option linter.unusedVariables false
set_option linter.unusedSimpArgs false
namespace Go.Proofs.Ytncmdbpoceilgaa.T
open Go Go.RowKit Go.Proofs
set_option maxRecDepth 10000

def pickL (x n : Int) : Int := if Int.tmod x n < 0 then Int.tmod x n + n else Int.tmod x n
def pickK (x n : Int) : Nat := if Int.tmod x n < 0 then 11 else 9
theorem pickL_bounds (x n : Int) (h : 0 < n) : 0 ≤ pickL x n ∧ pickL x n < n := by
  have h1 := Int.tmod_lt_of_pos x h
  have h2 : -n < Int.tmod x n := by
    have := Int.lt_tmod_of_pos x h
    omega
  unfold pickL; split <;> omega
theorem picked_spec {f : Nat} (hf : 1 ≤ f) (Y : YldF) (x n : Int) (h0 : 0 < n) (h1 : n ≤ 100000000) (h : AHeap) (nx : Nat) : callP Try.prog keepT f Y 15 [.int .i64 x, .int .i64 n] h nx = some (.int .i64 (pickL x n), h, nx + pickK x n) := by
  obtain ⟨f, rfl⟩ : ∃ m, f = m + 1 := ⟨f - 1, by omega⟩
  have h2 := Int.tmod_lt_of_pos x h0
  have h3 : -n < Int.tmod x n := by
    have := Int.lt_tmod_of_pos x h0
    omega
  rw [F15_eq, if_neg (by omega)]
  unfold pickL pickK
  by_cases c : Int.tmod x n < 0
  · rw [if_pos (decide_eq_true c), if_pos c, if_pos c, wA (by omega) (by omega)]
  · rw [if_neg (by simpa using c), if_neg c, if_neg c]

def objN : List ByteArray := [ByteArray.mk #[97], ByteArray.mk #[98], ByteArray.mk #[99, 51], ByteArray.mk #[122, 122], ByteArray.mk #[101]]
def snpN : List ByteArray := [ByteArray.mk #[115], ByteArray.mk #[116], ByteArray.mk #[117, 48], ByteArray.mk #[118]]
def objName (n : Int) : ByteArray := objN.getD (pickL n 5).toNat nE
def snpName (n : Int) : ByteArray := snpN.getD (pickL n 4).toNat nE
theorem objectName_spec {f : Nat} (hf : 2 ≤ f) (Y : YldF) (x : Int) (h : AHeap) (nx : Nat) : callP Try.prog keepT f Y 9 [.int .i64 x] h nx = some (.str (objName x), h.put (nx + 1) (some ⟨objN.map AV.str, 1, true⟩), nx + 7 + pickK x 5) := by
  obtain ⟨f, rfl⟩ : ∃ m, f = m + 1 := ⟨f - 1, by omega⟩
  obtain ⟨b1, b2⟩ := pickL_bounds x 5 (by decide)
  rw [F9_eq]
  dsimp only
  rw [picked_spec (by omega) Y x 5 (by decide) (by decide)]
  simp only [mst_, mst5_]
  have hi : (pickL x 5).toNat < objN.length := by show _ < 5; omega
  rw [if_pos (by omega), ld_at (put_same _ _ _) (show _ = some (AV.str (objName x)) from by
    rw [Nat.zero_add, Nat.mul_one]
    show (objN.map AV.str)[(pickL x 5).toNat]? = _
    rw [List.getElem?_map, List.getElem?_eq_getElem hi]
    simp [objName, List.getD_eq_getElem?_getD, List.getElem?_eq_getElem hi])]
  simp only [mst_, mst5_]
  rfl
theorem snapName_spec {f : Nat} (hf : 2 ≤ f) (Y : YldF) (x : Int) (h : AHeap) (nx : Nat) : callP Try.prog keepT f Y 16 [.int .i64 x] h nx = some (.str (snpName x), h.put (nx + 1) (some ⟨snpN.map AV.str, 1, true⟩), nx + 7 + pickK x 4) := by
  obtain ⟨f, rfl⟩ : ∃ m, f = m + 1 := ⟨f - 1, by omega⟩
  obtain ⟨b1, b2⟩ := pickL_bounds x 4 (by decide)
  rw [F16_eq]
  dsimp only
  rw [picked_spec (by omega) Y x 4 (by decide) (by decide)]
  simp only [mst_, mst5_]
  have hi : (pickL x 4).toNat < snpN.length := by show _ < 4; omega
  rw [if_pos (by omega), ld_at (put_same _ _ _) (show _ = some (AV.str (snpName x)) from by
    rw [Nat.zero_add, Nat.mul_one]
    show (snpN.map AV.str)[(pickL x 4).toNat]? = _
    rw [List.getElem?_map, List.getElem?_eq_getElem hi]
    simp [snpName, List.getD_eq_getElem?_getD, List.getElem?_eq_getElem hi])]
  simp only [mst_, mst5_]
  rfl

def blockP (d : List Int) (n : Nat) : List Int := if d.length = 0 then [7] else d.take n
theorem block_spec {f : Nat} (hf : 1 ≤ f) (Y : YldF) {h : AHeap} {nx : Nat} {a : Option (Nat × Nat)} (c : Option Nat) {d : List Int} (s : Sl h nx a d.length 1 (ints .u8 d)) {n : Nat} (hn : 1 ≤ n ∧ n ≤ 1000000) :
    ∃ v h' nx', callP Try.prog keepT f Y 14 [.slice a d.length c, .int .i64 (n : Int)] h nx = some (v, h', nx') ∧ Ext h nx h' nx' ∧ Byt .u8 h' nx' (Old nx) v (blockP d n) := by
  obtain ⟨f, rfl⟩ : ∃ m, f = m + 1 := ⟨f - 1, by omega⟩
  rw [F14_eq]
  unfold blockP
  by_cases h0 : d.length = 0
  · rw [if_pos (by rw [beq_iff_eq]; omega), if_pos h0]
    exact ⟨_, _, _, rfl, (Ext.refl h nx).put (by omega) (by omega), Byt.block (bs := [7]) (some 1) (put_same _ _ _) (by omega) (by omega)⟩
  · rw [if_neg (by rw [beq_iff_eq]; omega), if_neg h0]
    have hX : (if (n : Int) < ((d.length : Nat) : Int) then (n : Int) else ((d.length : Nat) : Int)) = ((min n d.length : Nat) : Int) := by split <;> omega
    rw [hX]
    obtain ⟨c1, c2, _⟩ := s.cut c (lo := 0) (hi := min n d.length) (by omega) (by omega) (l := none) (r := some (.int .i64 ((min n d.length : Nat) : Int))) rfl (bound_some (by omega))
    rw [c1, some_bind]
    try dsimp only
    obtain ⟨rd, e1⟩ := c2.src'
    rw [e1, some_bind]
    obtain ⟨e, f1, f2, f3, f4⟩ := copyOf (h := h) (nx := nx) (bytes := 1) (id := nx + 10) (rd := rd) c2.1 (growOk_of (by omega) (by omega)) (by omega)
    rw [f1, some_bind]
    try dsimp only
    rw [f2]
    have hc : (((ints .u8 d).drop (0 * 1)).take ((min n d.length - 0) * 1)) = ints .u8 (d.take n) := by
      simp only [Nat.zero_mul, List.drop_zero, Nat.sub_zero, Nat.mul_one, take_ints]
      congr 1
      rw [List.take_eq_take_iff]; simp
    have hl : min n d.length - 0 = (d.take n).length := by simp
    rw [hc, hl] at f3
    rw [hl]
    exact ⟨_, _, nx + 12, rfl, f4.le (by omega), _, _, rfl, (f3.le (by omega : nx + 10 + 1 ≤ nx + 12)).sl, f3.av fun i hi _ => by unfold Old; omega⟩

structure Ord where
  kind : Int
  name : Int
  other : Int
  off : Int
  count : Int
  data : List Int
def ordV (o : Ord) (da : Option (Nat × Nat)) (dc : Option Nat) : List AV := [.int .i64 o.kind, .int .i64 o.name, .int .i64 o.other, .int .i64 o.off, .int .i64 o.count, .slice da o.data.length dc]
def OrdR (h : AHeap) (nx : Nat) (A : Nat → Prop) (o : Ord) (r : List AV) : Prop := ∃ da dc, r = ordV o da dc ∧ Sl h nx da o.data.length 1 (ints .u8 o.data) ∧ Av A da o.data.length
def kindOf (o : Ord) (kinds : List Int) : Int := kinds.getD (pickL o.kind kinds.length).toNat 0
def cmdOf (o : Ord) (kinds : List Int) : Cmd := ⟨kindOf o kinds, objName o.name, snpName o.other, pickL o.off 1100, pickL o.count 1100, if kindOf o kinds = 2 then blockP o.data 400 else []⟩

theorem commandOf_spec {f : Nat} (hf : 10 ≤ f) (Y : YldF) {h : AHeap} {nx : Nat} (o : Ord) {da : Option (Nat × Nat)} (dc : Option Nat) (sd : Sl h nx da o.data.length 1 (ints .u8 o.data)) {ka : Option (Nat × Nat)} (kc : Option Nat) {kinds : List Int} (sk : Sl h nx ka kinds.length 1 (ints .i64 kinds)) (hk : 1 ≤ kinds.length ∧ kinds.length ≤ 1000) :
    ∃ row h' nx', callP Try.prog keepT f Y 10 [.agg (ordV o da dc), .slice ka kinds.length kc] h nx = some (.agg row, h', nx') ∧ Ext h nx h' nx' ∧ CmdR h' nx' (Old nx) (cmdOf o kinds) row := by
  obtain ⟨f, rfl⟩ : ∃ m, f = m + 5 := ⟨f - 5, by omega⟩
  obtain ⟨p, pb, rfl, lp, hpb, _⟩ := sk.2 0 (by omega)
  unfold ordV
  rw [F10_eq]
  dsimp only
  obtain ⟨h2, hh2⟩ : ∃ h2, h2 = AHeap.put (AHeap.put h nx (some ⟨[.int .i64 o.kind, .int .i64 o.name, .int .i64 o.other, .int .i64 o.off, .int .i64 o.count, .slice da o.data.length dc], 6, true⟩)) (nx + 1) (some ⟨[(.int .i64 0), (.str (ByteArray.mk #[])), (.str (ByteArray.mk #[])), (.int .i64 0), (.int .i64 0), (.int .i64 0), (.int .i64 0), (.slice none 0 none)], 8, true⟩) := ⟨_, rfl⟩
  rw [← hh2]
  have b1 : h2 nx = some ⟨[.int .i64 o.kind, .int .i64 o.name, .int .i64 o.other, .int .i64 o.off, .int .i64 o.count, .slice da o.data.length dc], 6, true⟩ := by rw [hh2, put_ne (by omega), put_same]
  have b2 : h2 (nx + 1) = some ⟨[(.int .i64 0), (.str (ByteArray.mk #[])), (.str (ByteArray.mk #[])), (.int .i64 0), (.int .i64 0), (.int .i64 0), (.int .i64 0), (.slice none 0 none)], 8, true⟩ := by rw [hh2, put_same]
  have x2 : Ext h nx h2 (nx + 2) := by rw [hh2]; exact ((Ext.refl h nx).put (m' := nx + 1) (by omega) (by omega)).put (by omega) (by omega)
  clear hh2
  obtain ⟨q1, q2⟩ := pickL_bounds o.kind (kinds.length : Int) (by omega)
  have hki : (pickL o.kind (kinds.length : Int)).toNat < kinds.length := by omega
  rw [ld_at b1 (show _ = some (AV.int .i64 o.kind) from rfl)]
  simp only [mst_, mst5_]
  rw [picked_spec (by omega) Y o.kind (kinds.length : Int) (by omega) (by omega)]
  simp only [mst_, mst5_]
  have hkg : (ints .i64 kinds)[Int.toNat (pickL o.kind (kinds.length : Int)) * 1]? = some (.int .i64 (kindOf o kinds)) := by
    rw [ints_get hki]; simp [kindOf, List.getD_eq_getElem?_getD, List.getElem?_eq_getElem hki]
  have rk := fun K : AV → Option (AV × AHeap × Nat) => (sk.ext x2).read0 q1 q2 (by omega) hkg K
  simp only [bind_some'] at rk
  rw [rk]
  simp only [mst_, mst5_]
  rw [ld_at b1 (show _ = some (AV.int .i64 o.name) from rfl)]
  simp only [mst_, mst5_]
  obtain ⟨c1, hc1⟩ : ∃ c1, c1 = nx + 25 + pickK o.kind (kinds.length : Int) := ⟨_, rfl⟩
  rw [← hc1, objectName_spec (by omega)]
  simp only [mst_, mst5_]
  obtain ⟨h3, hh3⟩ : ∃ h3, h3 = h2.put (c1 + 1) (some ⟨objN.map AV.str, 1, true⟩) := ⟨_, rfl⟩
  have k3 : ∀ i, i < nx + 25 → h3 i = h2 i := fun i hi => by rw [hh3]; exact put_ne (by omega)
  rw [← hh3, ld_at ((k3 nx (by omega)).trans b1) (show _ = some (AV.int .i64 o.other) from rfl)]
  simp only [mst_, mst5_]
  obtain ⟨c2, hc2⟩ : ∃ c2, c2 = c1 + 7 + pickK o.name 5 := ⟨_, rfl⟩
  rw [← hc2, snapName_spec (by omega)]
  simp only [mst_, mst5_]
  obtain ⟨h4, hh4⟩ : ∃ h4, h4 = h3.put (c2 + 1) (some ⟨snpN.map AV.str, 1, true⟩) := ⟨_, rfl⟩
  have k4 : ∀ i, i < nx + 25 → h4 i = h3 i := fun i hi => by rw [hh4]; exact put_ne (by omega)
  have b4 := (k4 nx (by omega)).trans ((k3 nx (by omega)).trans b1)
  rw [← hh4, ld_at b4 (show _ = some (AV.int .i64 o.off) from rfl)]
  simp only [mst_, mst5_]
  obtain ⟨c3, hc3⟩ : ∃ c3, c3 = c2 + 7 + pickK o.other 4 := ⟨_, rfl⟩
  rw [← hc3, picked_spec (by omega) Y o.off 1100 (by decide) (by decide)]
  simp only [mst_, mst5_]
  rw [ld_at b4 (show _ = some (AV.int .i64 o.count) from rfl)]
  simp only [mst_, mst5_]
  rw [picked_spec (by omega) Y o.count 1100 (by decide) (by decide)]
  simp only [mst_, mst5_]
  obtain ⟨c4, hc4⟩ : ∃ c4, c4 = c3 + pickK o.off 1100 := ⟨_, rfl⟩
  rw [← hc4]
  obtain ⟨c5, hc5⟩ : ∃ c5, c5 = c4 + pickK o.count 1100 := ⟨_, rfl⟩
  rw [← hc5]
  rw [st_all (put_same _ _ _) (by simp) (by simp) (by simp [allOne, AV.one]), put_put]
  rw [ifApart_pos (by
    have a1 : ∀ x ∈ [nx + 23], x ∉ [nx] := by simp
    have a2 : ∀ x ∈ [nx + 23], x ∉ [p.1] := by simp; omega
    have a3 : ∀ x ∈ [nx + 23], x ∉ ([] : List Nat) := by simp
    exact ⟨a1, a3, a2, a1, a1, a1, a1, trivial⟩)]
  rw [ifKept_pos (by
    have r0 : ∀ x ∈ [nx], h2 x = h2 x := fun _ _ => rfl
    have r1 : ∀ x ∈ [p.1], h3 x = h2 x := fun x hx => by rw [List.mem_singleton.1 hx]; exact k3 _ (by omega)
    have r2 : ∀ x ∈ [p.1], h4 x = h3 x := fun x hx => by rw [List.mem_singleton.1 hx]; exact k4 _ (by omega)
    have r3 : ∀ x ∈ [nx], h3 x = h2 x := fun x hx => by rw [List.mem_singleton.1 hx]; exact k3 _ (by omega)
    have r4 : ∀ x ∈ [nx], h4 x = h3 x := fun x hx => by rw [List.mem_singleton.1 hx]; exact k4 _ (by omega)
    exact ⟨r0, r0, r0, r0, r1, r2, fun _ _ => rfl, fun _ _ => rfl, r3, r3, r3, r4, r4, fun _ _ => rfl, trivial⟩)]
  rw [ifRob_pos (by
    refine ⟨fun ss _ => ?_, fun ss hs => ?_, fun ss hs => ?_, fun ss _ => ?_, fun ss _ => ?_, trivial⟩
    · simp only [callC_fn]; rw [picked_spec (by omega) Y o.kind (kinds.length : Int) (by omega) (by omega), hc1]
    · have hn : c1 + 1 ∉ ss.map (·.1) := fun hm => by
        obtain ⟨q, hq, e⟩ := List.mem_map.1 hm
        have := hs q hq
        simp at this; omega
      simp only [callC_fn]; rw [objectName_spec (by omega), hc2, hh3, put_puts _ hn]
    · have hn : c2 + 1 ∉ ss.map (·.1) := fun hm => by
        obtain ⟨q, hq, e⟩ := List.mem_map.1 hm
        have := hs q hq
        simp at this; omega
      simp only [callC_fn]; rw [snapName_spec (by omega), hc3, hh4, put_puts _ hn]
    · simp only [callC_fn]; rw [picked_spec (by omega) Y o.off 1100 (by decide) (by decide), hc4]
    · simp only [callC_fn]; rw [picked_spec (by omega) Y o.count 1100 (by decide) (by decide), hc5])]
  obtain ⟨h5, hh5⟩ : ∃ h5, h5 = h4.put (nx + 23) (some ⟨[(.int .i64 (kindOf o kinds)), (.str (objName o.name)), (.str (snpName o.other)), (.int .i64 (pickL o.off 1100)), (.int .i64 (pickL o.count 1100)), (.int .i64 0), (.int .i64 0), (.slice none 0 none)], 8, true⟩) := ⟨_, rfl⟩
  have b5 : h5 (nx + 23) = some ⟨[(.int .i64 (kindOf o kinds)), (.str (objName o.name)), (.str (snpName o.other)), (.int .i64 (pickL o.off 1100)), (.int .i64 (pickL o.count 1100)), (.int .i64 0), (.int .i64 0), (.slice none 0 none)], 8, true⟩ := by rw [hh5, put_same]
  have k5 : ∀ i, i < nx + 23 → h5 i = h2 i := fun i hi => by rw [hh5, put_ne (by omega), k4 i (by omega), k3 i (by omega)]
  rw [← hh5]
  have hlow : nx + 25 ≤ c5 := by omega
  have x5 : Ext h nx h5 (c5 + 5) := ⟨by omega, fun i hi => (k5 i (by omega)).trans (x2.2 i hi)⟩
  rw [ld_at b5 (show _ = some (AV.int .i64 (kindOf o kinds)) from rfl)]
  simp only [mst_, mst5_]
  by_cases hkd : kindOf o kinds = 2
  · rw [if_pos (by rw [beq_iff_eq]; exact hkd), ld_at ((k5 nx (by omega)).trans b1) (show _ = some (AV.slice da o.data.length dc) from rfl)]
    simp only [mst_, mst5_]
    obtain ⟨v, h6, n6, g1, g2, ⟨va, vc, rfl, g3, g4⟩⟩ := block_spec (f := f + 4) (by omega) Y dc (sd.ext (x5.le (by omega : c5 + 5 ≤ c5 + 8))) (n := 400) (by omega)
    rw [show ((400 : Nat) : Int) = 400 from rfl] at g1
    rw [g1]
    simp only [mst_, mst5_]
    have hn6 : c5 + 8 ≤ n6 := g2.1
    rw [st_to (cs' := cmdV ⟨kindOf o kinds, objName o.name, snpName o.other, pickL o.off 1100, pickL o.count 1100, blockP o.data 400⟩ 0 0 va vc) ((g2.2 _ (by omega)).trans b5) rfl (by simp) rfl, ldr_all (n := 8) (put_same _ _ _) rfl]
    unfold cmdV
    simp only [mst_, mst5_]
    rw [st_all (n := 8) (cs := [(.int .i64 0), (.str (ByteArray.mk #[])), (.str (ByteArray.mk #[])), (.int .i64 0), (.int .i64 0), (.int .i64 0), (.int .i64 0), (.slice none 0 none)]) (by rw [put_ne (by omega), g2.2 _ (by omega), k5 _ (by omega)]; exact b2) (by simp) (by simp) (by simp [allOne, AV.one]), ldr_all (n := 8) (put_same _ _ _) rfl]
    simp only [mst_, mst5_]
    have hcmd : cmdOf o kinds = ⟨kindOf o kinds, objName o.name, snpName o.other, pickL o.off 1100, pickL o.count 1100, blockP o.data 400⟩ := by unfold cmdOf; rw [if_pos hkd]
    rw [hcmd]
    have ff : Frm (fun i => i = nx + 23 ∨ i = nx + 1) h6 n6 (AHeap.put (AHeap.put h6 (nx + 23) (some ⟨[.int .i64 (kindOf o kinds), .str (objName o.name), .str (snpName o.other), .int .i64 (pickL o.off 1100), .int .i64 (pickL o.count 1100), .int .i64 0, .int .i64 0, .slice va (blockP o.data 400).length vc], 8, true⟩)) (nx + 1) (some ⟨[.int .i64 (kindOf o kinds), .str (objName o.name), .str (snpName o.other), .int .i64 (pickL o.off 1100), .int .i64 (pickL o.count 1100), .int .i64 0, .int .i64 0, .slice va (blockP o.data 400).length vc], 8, true⟩)) (n6 + 2) :=
      ⟨by omega, fun i hi hd => by rw [put_ne (by omega), put_ne (by omega)]⟩
    refine ⟨_, _, n6 + 2, rfl, ⟨by omega, fun i hi => ?_⟩, 0, 0, va, vc, rfl, g3.fr (g4.less fun i q => by unfold Old; omega) ff, g4.less fun i q => by unfold Old at *; omega⟩
    rw [put_ne (by omega), put_ne (by omega), g2.2 _ (by omega)]
    exact x5.2 i hi
  · rw [if_neg (by rw [beq_iff_eq]; exact hkd), ldr_all (n := 8) b5 rfl]
    simp only [mst_, mst5_]
    rw [st_all (n := 8) (cs := [(.int .i64 0), (.str (ByteArray.mk #[])), (.str (ByteArray.mk #[])), (.int .i64 0), (.int .i64 0), (.int .i64 0), (.int .i64 0), (.slice none 0 none)]) (by rw [k5 _ (by omega)]; exact b2) (by simp) (by simp) (by simp [allOne, AV.one]), ldr_all (n := 8) (put_same _ _ _) rfl]
    simp only [mst_, mst5_]
    have hcmd : cmdOf o kinds = ⟨kindOf o kinds, objName o.name, snpName o.other, pickL o.off 1100, pickL o.count 1100, []⟩ := by unfold cmdOf; rw [if_neg hkd]
    rw [hcmd]
    refine ⟨_, _, c5 + 5, rfl, x5.put (by omega) (by omega), 0, 0, none, none, rfl, ⟨rfl, fun j hj => by simp at hj⟩, Av.none⟩

theorem kinds_spec {f : Nat} (hf : 1 ≤ f) (Y : YldF) (h : AHeap) (nx : Nat) : ∃ h' nx', callP Try.prog keepT f Y 8 [] h nx = some (.slice (some (nx + 1, 0)) 22 (some 22), h', nx') ∧ Ext h nx h' nx' ∧ h' (nx + 1) = some ⟨ints .i64 [1, 2, 3, 4, 5, 6, 7, 8, 9, 10, 11, 12, 1, 2, 2, 2, 3, 8, 4, 4, 2, 3], 1, true⟩ ∧ nx + 1 < nx' := by
  obtain ⟨f, rfl⟩ : ∃ m, f = m + 1 := ⟨f - 1, by omega⟩
  rw [F8_eq]
  exact ⟨_, _, rfl, (Ext.refl h nx).put (by omega) (by omega), put_same _ _ _, by omega⟩
end Go.Proofs.Ytncmdbpoceilgaa.T
