/- Desk: Read, whole. -/
import Derived.Test.YtahilinkfnchaaaDoorDL
set_option linter.unusedVariables false
set_option linter.unusedSimpArgs false
namespace Go.Proofs.YtahilinkfnchaaaDoor.T
open Go Go.RowKit Go.Proofs
set_option maxRecDepth 10000

theorem cut_words {h : AHeap} (e : h 0 = some ⟨wordsC, 2, false⟩) : cutR h (some (0, 0)) 19 2 none none none = some (some (0, 0), 19, some 19) := by
  unfold cutR
  rw [Option.bind_some, e, Option.bind_some]
  rfl
theorem words_sig {k : Nat} (hk : k < 19) : wordsC[0 + Int.toNat (k : Int) * 2 + Int.toNat 1 * 1]? = some (AV.str (B (sigW k))) := by
  have h := words_row ⟨k, hk⟩
  have h2 := congrArg (fun l : List AV => l[1]?) h
  simp only [List.getElem?_take, List.getElem?_drop] at h2
  rw [Nat.zero_add, Int.toNat_natCast]
  simpa using h2
theorem ReadRes.back {h h2 : AHeap} {nx0 : Nat} {o : Option Com} {r : Option (AV × AHeap × Nat)} (q : ReadRes h2 nx0 o r) (e : ∀ j, j < nx0 → h2 j = h j) : ReadRes h nx0 o r := by
  obtain ⟨row, h', nx', g1, g2, g3⟩ := q
  exact ⟨row, h', nx', g1, ⟨g2.1, fun j hj => (g2.2 j hj).trans (e j hj)⟩, g3⟩

theorem read_spec {n : Nat} (Y : YldF) {s : ByteArray} (hn : s.size + 60 ≤ n) (hs : s.size ≤ 1000000000) {h : AHeap} {nx : Nat} (hx : 0 < nx) (hg : h 0 = some ⟨wordsC, 2, false⟩) :
    ReadRes h nx (readP s.data.toList) (callP Tryd.prog keepT n Y 13 [.str s] h nx) := by
  obtain ⟨n, rfl⟩ : ∃ m, n = m + 3 := ⟨n - 3, by omega⟩
  have hlen : s.data.toList.length = s.size := Array.length_toList
  rw [F13_eq]
  dsimp only
  rw [split_spec (n + 1) Y (by omega)]
  simp only [mst_, mst5_]
  have hlw : (wordsOf s).length = (cutW s.data.toList).length := by simp [wordsOf]
  rw [hlw]
  have hpos : 0 < (cutW s.data.toList).length := List.length_pos_iff.2 (cutW_ne _)
  have hmem : ∀ w ∈ cutW s.data.toList, w.length + 20 ≤ n + 2 ∧ w.length ≤ 1000000000 := fun w hw => by
    have := cutW_le _ w hw
    omega
  unfold wordsOf
  have hcl := cutW_len s.data.toList
  generalize hP : readP s.data.toList = P
  unfold readP at hP
  generalize cutW s.data.toList = ws at *
  rw [st_set (put_same _ _ _) rfl (by simp) rfl]
  simp only [List.set_cons_zero]
  obtain ⟨h1, hh1⟩ : ∃ h1, h1 = AHeap.put (AHeap.put (AHeap.put (AHeap.put h nx (some ⟨zeroC, 8, true⟩)) (nx + 6) (some ⟨(ws.map B).map AV.str, 1, true⟩)) (nx + 4) (some ⟨[.slice none 0 none], 1, true⟩)) (nx + 4) (some ⟨[.slice (some (nx + 6, 0)) ws.length (some ws.length)], 1, true⟩) := ⟨_, rfl⟩
  have hh1' := hh1
  unfold zeroC at hh1'
  rw [← hh1']
  have r1 : h1 nx = some ⟨zeroC, 8, true⟩ := by rw [hh1, put_ne (by omega), put_ne (by omega), put_ne (by omega), put_same]
  have b1 : h1 (nx + 6) = some ⟨(ws.map B).map AV.str, 1, true⟩ := by rw [hh1, put_ne (by omega), put_ne (by omega), put_same]
  have q1 : h1 (nx + 4) = some ⟨[.slice (some (nx + 6, 0)) ws.length (some ws.length)], 1, true⟩ := by rw [hh1, put_same]
  have o1 : ∀ j, j < nx → h1 j = h j := fun j hj => by rw [hh1, put_ne (by omega), put_ne (by omega), put_ne (by omega), put_ne (by omega)]
  clear hh1 hh1'
  have g1 := (o1 0 hx).trans hg
  have p1 : Sl h1 (nx + 7) (some (nx + 6, 0)) ws.length 1 ((ws.map B).map AV.str) := ⟨by simp, fun j hj => ⟨_, _, rfl, by simp, b1, rfl, by simp, fun q hq => by simp⟩⟩
  rw [cut_words g1]
  simp only [mst_, mst5_]
  rw [F29_eq]
  obtain ⟨h2, n2, e2, x2⟩ := find_loop (m := n) Y (n + 1) hpos (c0 := some 19) (pc := some ws.length) (pb := nx + 4) (nx1 := nx + 7) (by omega) (by omega) 19 (n + 1) 0 (nx + 6 + 1 + 4 + 4) h1 (by omega) (by omega) (by omega) g1 q1 p1
  rw [show ((0 : Nat) : Int) = 0 from rfl, List.drop_zero, fiW_kind] at e2
  rw [e2]
  simp only [mst_, mst5_]
  have r2 := (x2.2 nx (by omega)).trans r1
  have q2 := (x2.2 (nx + 4) (by omega)).trans q1
  have g2 := (x2.2 0 (by omega)).trans g1
  have p2 := p1.ext x2
  have o2 : ∀ j, j < nx → h2 j = h j := fun j hj => (x2.2 j (by omega)).trans (o1 j hj)
  have l2 := x2.1
  have no : ∀ z, nx ≤ z → ReadRes h nx none (some (.tuple [.agg zeroC, .int .i64 4], h2.put nx (some ⟨zeroC, 8, true⟩), z)) := fun z hz =>
    ⟨zeroC, _, _, rfl, ⟨hz, fun j hj => (put_ne (by omega)).trans (o2 j hj)⟩, zero_com _ _ _⟩
  cases hk : kindI (ws.getD 0 []) with
  | none =>
    rw [hk] at hP
    obtain rfl := hP
    dsimp only
    rw [if_pos (by decide), st_all (n := 8) r2 rfl rfl rfl, ldr_all (n := 8) (put_same _ _ _) rfl]
    simp only [mst_, mst5_]
    exact no _ (by omega)
  | some k =>
    obtain ⟨hk19, hkw⟩ := kind_lt hk
    dsimp only
    rw [hk] at hP
    dsimp only at hP
    rw [if_neg (by simp), ld_at q2 (show _ = some (AV.slice (some (nx + 6, 0)) ws.length (some ws.length)) from rfl)]
    simp only [mst_, mst5_]
    rw [if_pos ⟨by omega, by omega⟩, if_pos ⟨by omega, by omega⟩, ld_at g2 (words_sig hk19)]
    simp only [mst_, mst5_]
    have hsl := sig_len k
    rw [B_size, wA (by omega) (by omega)]
    by_cases c : ws.length ≠ (sigW k).length + 1
    · rw [if_pos c] at hP
      obtain rfl := hP
      rw [if_pos (by rw [bne_iff_ne]; omega), st_all (n := 8) r2 rfl rfl rfl, ldr_all (n := 8) (put_same _ _ _) rfl]
      simp only [mst_, mst5_]
      exact no _ (by omega)
    · rw [if_neg c] at hP
      rw [if_neg (by rw [bne_iff_ne]; omega), F13_J1_eq]
      dsimp only
      rw [st_all (n := 8) (put_same _ _ _) rfl rfl rfl, if_pos ⟨by omega, by omega⟩, if_pos ⟨by omega, by omega⟩]
      have hw1 : wrapA .i64 (1 + (k : Int)) = 1 + (k : Int) := by rw [wA (by omega) (by omega)]
      rw [hw1]
      obtain ⟨h3, hh3⟩ : ∃ h3, h3 = AHeap.put (AHeap.put h2 (n2 + 13 + 3) (some ⟨zeroC, 8, true⟩)) (n2 + 13 + 3) (some ⟨comV { noCom with kind := 1 + (k : Int) } none none, 8, true⟩) := ⟨_, rfl⟩
      have hh3' := hh3
      unfold zeroC comV noCom nE ob at hh3'
      simp only [List.map_nil, List.length_nil] at hh3'
      rw [← hh3']
      have c3 : h3 (n2 + 13 + 3) = some ⟨comV { noCom with kind := 1 + (k : Int) } none none, 8, true⟩ := by rw [hh3, put_same]
      have o3 : ∀ j, j ≠ n2 + 13 + 3 → h3 j = h2 j := fun j hj => by rw [hh3, put_ne hj, put_ne hj]
      clear hh3 hh3'
      rw [ld_at ((o3 0 (by omega)).trans g2) (words_sig hk19)]
      simp only [mst_, mst5_]
      obtain ⟨h4, hh4⟩ : ∃ h4, h4 = AHeap.put h3 (n2 + 13 + 10) (some ⟨itC (B (sigW k)) 0, MB, true⟩) := ⟨_, rfl⟩
      rw [← hh4]
      have t4 : h4 (n2 + 13 + 10) = some ⟨itC (B (sigW k)) 0, MB, true⟩ := by rw [hh4, put_same]
      have o4 : ∀ j, j ≠ n2 + 13 + 10 → h4 j = h3 j := fun j hj => by rw [hh4, put_ne hj]
      clear hh4
      have o5 : ∀ j, j < n2 → h4 j = h2 j := fun j hj => (o4 j (by omega)).trans (o3 j (by omega))
      have res := read_loop (m := n + 2) (by omega) Y (n + 2) (sg := sigW k) (fun s hs => sig_sign hs) (ws := ws) (by omega) (by omega) hmem (pa := some (nx + 6, 0)) (pc := some ws.length) (nx0 := nx) (rb := nx) (pb := nx + 4) (cb := n2 + 13 + 3) (it := n2 + 13 + 10) (by omega) (by omega) (by omega) (by omega) (by omega) (by omega) (by omega) (by omega) (by omega) (sigW k).length (n + 2) 0 (n2 + 13 + 11) h4 { noCom with kind := 1 + (k : Int) } none none true (by omega) (by omega) (by omega) (by omega) (by omega) (by omega) (by omega) ((o5 nx (by omega)).trans r2) ((o5 (nx + 4) (by omega)).trans q2) ((o4 _ (by omega)).trans c3) t4 (p2.ext ⟨by omega, o5⟩) ⟨rfl, fun j hj => by simp [ob, noCom] at hj⟩ (fun hj => by simp [ob, noCom] at hj)
      rw [List.drop_zero, Nat.zero_add] at res
      rw [← hP]
      exact res.back fun j hj => (o5 j (by omega)).trans (o2 j hj)
end Go.Proofs.YtahilinkfnchaaaDoor.T
