/- Desk: LineFixed. -/
import Derived.Test.YtahilinkfnchaaaDoorDN
set_option linter.unusedVariables false
set_option linter.unusedSimpArgs false
namespace Go.Proofs.YtahilinkfnchaaaDoor.T
open Go Go.RowKit Go.Proofs
set_option maxRecDepth 10000

theorem fit_small {c : Com} {k m : Nat} (f : c.Fit k) (hm : 100 ≤ m) (hd : c.data.length ≤ 100000000) : c.Small m := by
  have gs : ∀ s : ByteArray, goodName s = true → s.size ≤ 8 := fun s h => by
    unfold goodName at h
    simp only [Bool.and_eq_true, decide_eq_true_eq] at h
    exact h.2
  have hn : c.name.size ≤ 8 := by
    by_cases q : (110 : UInt8) ∈ sigW k
    · exact gs _ (f.gn q)
    · rw [f.zn q]; decide
  have ho : c.other.size ≤ 8 := by
    by_cases q : (111 : UInt8) ∈ sigW k
    · exact gs _ (f.go q)
    · rw [f.zo q]; decide
  exact ⟨by omega, by omega, by omega, by omega, f.f1, f.f2, f.c1, f.c2, f.d1, f.d2, f.k1, f.k2, hd⟩
theorem fit_data {c : Com} {k : Nat} (f : c.Fit k) : c.data.length ≤ (joinW (lineW c k)).length := by
  by_cases q : (120 : UInt8) ∈ sigW k
  · have h1 : hexL c.data ∈ lineW c k := List.mem_cons_of_mem _ (List.mem_map.2 ⟨120, q, rfl⟩)
    have h2 := cutW_le (joinW (lineW c k)) (hexL c.data) (by rw [cutW_join _ (by simp [lineW]) (line_nb f)]; exact h1)
    have h3 : c.data.length ≤ (hexL c.data).length := by
      unfold hexL; split
      · rename_i e; rw [e]; simp
      · rw [hexs_len]; omega
    omega
  · rw [f.zx q]; simp
def oneC : Com := ⟨2, B [97], nE, -3, 0, 0, 0, [10, 255]⟩
def oneS : ByteArray := ByteArray.mk #[115, 116, 111, 114, 101, 32, 97, 32, 45, 51, 32, 48, 97, 102, 102]
theorem itoa3 : Lib.itoa (-3) = [45, 51] := by
  unfold Lib.itoa
  rw [if_pos (by decide)]
  show 45 :: Lib.decDigits 3 = _
  rw [Lib.decDigits_one (by decide)]; rfl
theorem one_fit : oneC.Fit 1 := by
  refine ⟨rfl, by decide, fun _ => by decide, fun q => absurd q (by decide), fun q => absurd (by decide) q, fun _ => rfl, fun q => absurd (by decide) q, fun _ => rfl, fun _ => rfl, fun _ => rfl, fun q => absurd (by decide) q, by decide, by decide, by decide, by decide, by decide, by decide, by decide, by decide⟩
theorem one_read : readP oneS.data.toList = some oneC := by
  have h := line_read one_fit
  have e : joinW (lineW oneC 1) = oneS.data.toList := by
    show joinW [wordW 1, (B [97]).data.toList, Lib.itoa (-3), hexL [10, 255]] = _
    rw [itoa3]; decide
  rw [e] at h; exact h
theorem hg_ext {h h' : AHeap} {m nx' : Nat} (x : Ext h m h' nx') (hm : 0 < m) (hg : h 0 = some ⟨wordsC, 2, false⟩) : h' 0 = some ⟨wordsC, 2, false⟩ := (x.2 0 hm).trans hg

theorem fixed_end {m : Nat} (hm : 30 ≤ m) (Y : YldF) (lf : Nat) {s : ByteArray} (hs : s.size ≤ 2000000) {h : AHeap} {nx cb : Nat} {da : Option (Nat × Nat)} {dc : Option Nat} (hx : 0 < nx) (hg : h 0 = some ⟨wordsC, 2, false⟩) (hm2 : s.size + 200 ≤ m)
    (tc : h cb = some ⟨comV ((readP s.data.toList).getD noCom) da dc, 8, true⟩) (d : Sl h nx da (ob ((readP s.data.toList).getD noCom).data).length 1 (ints .u8 (ob ((readP s.data.toList).getD noCom).data))) :
    ∃ h' nx', F5_J1 (callP Tryd.prog keepT m) Y lf s (some (cb, 0)) (if (readP s.data.toList).isSome then 0 else 4) h nx = some (.bool true, h', nx') := by
  have hlen : s.data.toList.length = s.size := Array.length_toList
  rw [F5_J1_eq]
  cases hr : readP s.data.toList with
  | none =>
    rw [hr] at tc d
    simp only [Option.getD_none] at tc d
    unfold comV noCom at tc
    rw [if_pos (by rfl), if_pos (by rfl)]
    simp only [mst_, mst5_]
    rw [ld_at tc (show _ = some (AV.int .i64 0) from rfl)]
    simp only [mst_, mst5_]
    rw [if_pos (by rfl), ld_at tc (show _ = some (AV.str nE) from rfl)]
    simp only [mst_, mst5_]
    rw [if_pos (by rw [tl_beq]; rfl), ld_at tc (show _ = some (AV.slice da (ob []).length dc) from rfl)]
    simp only [mst_, mst5_]
    exact ⟨_, _, rfl⟩
  | some c =>
    obtain ⟨k, f, e⟩ := read_line hr
    rw [hr] at tc d
    simp only [Option.getD_some] at tc d
    have hd := fit_data f
    rw [e, hlen] at hd
    have tc' := tc
    unfold comV at tc'
    rw [if_neg (by simp)]
    simp only [mst_, mst5_]
    rw [ldr_all (n := 8) tc' rfl]
    simp only [mst_, mst5_]
    obtain ⟨h', nx', g1, g2⟩ := show_spec (n := m) hm Y (c := c) (da := da) (dc := dc) (nx := nx + 9) (by omega) hg (d.ext ⟨by omega, fun _ _ => rfl⟩) (fun m' hm' => fit_small f (by omega) (by omega)) (line_show f) (by rw [e]; omega)
    unfold comV at g1
    rw [g1]
    unfold toldV
    simp only [mst_, mst5_]
    simp only [Option.getD_some, Option.isSome_some, if_true]
    rw [if_pos (by rfl), e, B_of]
    exact ⟨h', nx' + 8, by rw [tl_beq]; simp⟩
theorem fixed_run {n : Nat} (Y : YldF) {s : ByteArray} (hn : s.size + 3000100 ≤ n) (hs : s.size ≤ 2000000) {h : AHeap} {nx : Nat} (hx : 0 < nx) (hg : h 0 = some ⟨wordsC, 2, false⟩) :
    ∃ h' nx', callP Tryd.prog keepT n Y 5 [.str s] h nx = some (.bool true, h', nx') := by
  obtain ⟨n, rfl⟩ : ∃ m, n = m + 2 := ⟨n - 2, by omega⟩
  rw [F5_eq]
  obtain ⟨row, h1, n1, e1, x1, da, dc, rfl, d1, dv1⟩ := read_spec (n := n + 1) Y (s := s) (by omega) (by omega) (h := h) (nx := nx + 9) (by omega) hg
  rw [e1]
  have g1 := hg_ext x1 (by omega) hg
  have l1 := x1.1
  unfold comV
  simp only [mst_, mst5_]
  rw [st_all (n := 8) (put_same _ _ _) rfl rfl rfl]
  obtain ⟨h2, hh2⟩ : ∃ h2, h2 = AHeap.put (AHeap.put h1 (nx + 6) (some ⟨zeroC, 8, true⟩)) (nx + 6) (some ⟨comV ((readP s.data.toList).getD noCom) da dc, 8, true⟩) := ⟨_, rfl⟩
  have hh2' := hh2
  unfold zeroC comV at hh2'
  rw [← hh2']
  have c2 : h2 (nx + 6) = some ⟨comV ((readP s.data.toList).getD noCom) da dc, 8, true⟩ := by rw [hh2, put_same]
  have o2 : ∀ j, j ≠ nx + 6 → h2 j = h1 j := fun j hj => by rw [hh2, put_ne hj, put_ne hj]
  clear hh2 hh2'
  have g2 := (o2 0 (by omega)).trans g1
  have d2 : Sl h2 n1 da (ob ((readP s.data.toList).getD noCom).data).length 1 (ints .u8 (ob ((readP s.data.toList).getD noCom).data)) := d1.fr (dv1.less fun j hj => by unfold Old; omega) (⟨Nat.le_refl _, fun j _ hj => o2 j hj⟩ : Frm (fun j => j = nx + 6) h1 n1 h2 n1)
  obtain ⟨row3, h3, n3, e3, x3, da3, dc3, rfl, d3, dv3⟩ := read_spec (n := n + 1) Y (s := oneS) (by show 15 + 60 ≤ n + 1; omega) (by show 15 ≤ _; omega) (h := h2) (nx := n1 + 7) (by omega) g2
  rw [one_read] at e3 d3 dv3
  simp only [Option.getD_some, Option.isSome_some, if_true] at e3 d3 dv3
  rw [show (ByteArray.mk #[115, 116, 111, 114, 101, 32, 97, 32, 45, 51, 32, 48, 97, 102, 102]) = oneS from rfl, e3]
  unfold comV
  simp only [mst_, mst5_]
  rw [st_all (n := 8) (put_same _ _ _) rfl rfl rfl]
  have l3 := x3.1
  obtain ⟨h4, hh4⟩ : ∃ h4, h4 = AHeap.put (AHeap.put h3 (n1 + 4) (some ⟨zeroC, 8, true⟩)) (n1 + 4) (some ⟨comV oneC da3 dc3, 8, true⟩) := ⟨_, rfl⟩
  have hh4' := hh4
  unfold zeroC comV oneC at hh4'
  simp only [oneC]
  simp only at hh4'
  rw [← hh4']
  have c4 : h4 (n1 + 4) = some ⟨comV oneC da3 dc3, 8, true⟩ := by rw [hh4, put_same]
  have o4 : ∀ j, j ≠ n1 + 4 → h4 j = h3 j := fun j hj => by rw [hh4, put_ne hj, put_ne hj]
  clear hh4 hh4'
  have c4' := c4
  unfold comV oneC at c4'
  rw [if_neg (by simp), ld_at c4' (show _ = some (AV.int .i64 (-3)) from rfl)]
  simp only [mst_, mst5_]
  rw [if_neg (by simp), ld_at c4' (show _ = some (AV.slice da3 (ob [10, 255]).length dc3) from rfl)]
  simp only [mst_, mst5_]
  have d4 : Sl h4 n3 da3 (ob [10, 255]).length 1 (ints .u8 (ob [10, 255])) := d3.fr (dv3.less fun j hj => by unfold Old; omega) (⟨Nat.le_refl _, fun j _ hj => o4 j hj⟩ : Frm (fun j => j = n1 + 4) h3 n3 h4 n3)
  obtain ⟨h5, hh5⟩ : ∃ h5, h5 = AHeap.put h4 (n3 + 10) (some ⟨[.int .u8 10, .int .u8 255], 1, true⟩) := ⟨_, rfl⟩
  rw [← hh5]
  have b5 : h5 (n3 + 10) = some ⟨ints .u8 (ob [10, 255]), 1, true⟩ := by rw [hh5, put_same]; rfl
  have o5 : ∀ j, j < n3 + 10 → h5 j = h4 j := fun j hj => by rw [hh5, put_ne (by omega)]
  clear hh5
  have s5 : Sl h5 (n3 + 11) (some (n3 + 10, 0)) (ob [10, 255]).length 1 (ints .u8 (ob [10, 255])) := Sl.block b5 (by omega)
  have d5 : Sl h5 (n3 + 10) da3 (ob [10, 255]).length 1 (ints .u8 (ob [10, 255])) := d4.ext ⟨by omega, fun j hj => o5 j (by omega)⟩
  rw [F15_eq, if_neg (by simp [ob])]
  obtain ⟨n6, q1, q2⟩ := bytes_loop (callP Tryd.prog keepT n) Y n dc3 (some (ob [10, 255]).length) d5 s5 (by simp [ob]) 2 n 0 (n3 + 14 + 7) (by simp [ob]) (by omega)
  rw [show ((0 : Nat) : Int) = 0 from rfl] at q1
  rw [show ((2 : Nat)) = (ob [10, 255]).length from rfl, q1]
  simp only [mst_, mst5_]
  have o6 : ∀ j, j < n1 + 4 → h5 j = h2 j := fun j hj => (o5 j (by omega)).trans ((o4 j (by omega)).trans (x3.2 j (by omega)))
  have d6 : Sl h5 n6 da (ob ((readP s.data.toList).getD noCom).data).length 1 (ints .u8 (ob ((readP s.data.toList).getD noCom).data)) := d2.ext ⟨by omega, fun j hj => o6 j (by omega)⟩
  exact fixed_end (m := n + 1) (by omega) Y (n + 1) hs (nx := n6) (cb := nx + 6) (by omega) ((o6 0 (by omega)).trans g2) (by omega) ((o6 (nx + 6) (by omega)).trans c2) d6
end Go.Proofs.YtahilinkfnchaaaDoor.T
