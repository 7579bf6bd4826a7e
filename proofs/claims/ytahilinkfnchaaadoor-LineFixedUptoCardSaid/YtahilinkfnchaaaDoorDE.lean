/- Desk: Hear, from the line on. -/
import Derived.Test.YtahilinkfnchaaaDoorDD
set_option linter.unusedVariables false
set_option linter.unusedSimpArgs false
namespace Go.Proofs.YtahilinkfnchaaaDoor.T
open Go Go.RowKit Go.Proofs
set_option maxRecDepth 10000

theorem word_get {ws : List (List UInt8)} {j : Nat} (hj : j < ws.length) : ((ws.map B).map AV.str)[Int.toNat (j : Int) * 1]? = some (.str (B (ws.getD j []))) := by
  rw [Int.toNat_natCast, Nat.mul_one, List.getElem?_map, List.getElem?_map, List.getElem?_eq_getElem hj]
  simp [List.getD_eq_getElem?_getD, List.getElem?_eq_getElem hj]
theorem getD_mem {ws : List (List UInt8)} {j : Nat} (hj : j < ws.length) : ws.getD j [] ∈ ws := by
  rw [List.getD_eq_getElem?_getD, List.getElem?_eq_getElem hj]; simp
theorem B_eq_iff (w v : List UInt8) : decide (B w = B v) = decide (w = v) := by
  by_cases h : w = v
  · subst h; simp
  · rw [decide_eq_false h, decide_eq_false (fun q => h (B_inj q))]
theorem unhex_byt {n : Nat} (Y : YldF) {w : List UInt8} (hn : w.length + 3 ≤ n) (hs : w.length ≤ 1000000000) (h : AHeap) (nx : Nat) :
    ∃ h' nx' a c, callP Tryd.prog keepT n Y 24 [.str (B w)] h nx = some (.tuple [.slice a (ob ((unhexL w).getD [])).length c, .bool (unhexL w).isSome], h', nx') ∧ Ext h nx h' nx' ∧ Sl h' nx' a (ob ((unhexL w).getD [])).length 1 (ints .u8 (ob ((unhexL w).getD []))) ∧ Av (Old nx) a (ob ((unhexL w).getD [])).length := by
  obtain ⟨h', nx', d, e, x, r⟩ := unhex_spec (n := n) Y (s := B w) (by rw [B_size]; omega) (by rw [B_size]; omega) h nx
  rw [B_data] at e r
  cases hu : unhexL w with
  | none =>
    rw [hu] at e r
    subst r
    exact ⟨h', nx', none, none, e, x, ⟨rfl, fun j hj => by simp [ob] at hj⟩, fun hj => by simp [ob] at hj⟩
  | some l =>
    rw [hu] at e r
    obtain ⟨a, c, rfl, s, v⟩ := r
    exact ⟨h', nx', a, c, e, x, s, v⟩

theorem hear1 {m : Nat} (hm : 11 ≤ m) (Y : YldF) (lf : Nat) {s : ByteArray} {h : AHeap} {nx0 nx i : Nat} {code : Int} {ws : List (List UInt8)} {l0 : List AV} {pa : Option (Nat × Nat)} (pc : Option Nat) (hi : nx0 < i) (hi2 : i < nx) (hl0 : l0.length = 5) (hr : h nx0 = some ⟨l0, 5, true⟩) (ti : h i = some ⟨[.int .i64 code, .bool false, .int .i64 0, .slice none 0 none, .slice none 0 none], 5, true⟩)
    (p : Sl h nx pa ws.length 1 ((ws.map B).map AV.str)) (hw : ∀ w ∈ ws, w.length + 10 ≤ m ∧ w.length ≤ 1000000000) (z : (toldT code ws).Small m) :
    HearRes h nx0 (hearV (toldT code ws) s) (F9_J1 (callP Tryd.prog keepT m) Y lf s (some (nx0, 0)) pa ws.length pc (some (i, 0)) h nx) := by
  rw [F9_J1_eq]
  by_cases c3 : 3 ≤ ws.length
  · rw [if_pos (by simp; omega)]
    have m1 := hw _ (getD_mem (ws := ws) (j := 1) (by omega))
    have m2 := hw _ (getD_mem (ws := ws) (j := 2) (by omega))
    rw [p.read0 (i := 1) (by omega) (by omega) (by omega) (word_get (j := 1) (by omega))]
    simp only [mst_, mst5_]
    rw [number_spec (n := m) (by omega) Y (s := B (ws.getD 1 [])) (by rw [B_size]; omega)]
    rw [B_data]
    simp only [mst_, mst5_]
    rw [st_set ti rfl (by simp) rfl]
    simp only [List.set_cons_succ, List.set_cons_zero]
    generalize hh1 : AHeap.put h i (some ⟨[.int .i64 code, .bool false, .int .i64 (numL (ws.getD 1 [])).1, .slice none 0 none, .slice none 0 none], 5, true⟩) = h1
    have f1 : Frm (fun j => j = i) h nx h1 (nx + 12 + 20) := by rw [← hh1]; exact (Frm.refl _ h nx).put (.inl rfl) (by omega)
    have t1 : h1 i = some ⟨[.int .i64 code, .bool false, .int .i64 (numL (ws.getD 1 [])).1, .slice none 0 none, .slice none 0 none], 5, true⟩ := by rw [← hh1]; exact put_same _ _ _
    have r1 : h1 nx0 = some ⟨l0, 5, true⟩ := (f1.2 nx0 (by omega) (by omega)).trans hr
    have o1 : ∀ j, j < nx0 → h1 j = h j := fun j hj => f1.2 j (by omega) (by omega)
    have p1 := p.fr (av_es p ti (by omega)) f1
    clear hh1
    rw [p1.read0 (i := 2) (by omega) (by omega) (by omega) (word_get (j := 2) (by omega))]
    simp only [mst_, mst5_]
    obtain ⟨h2, n2, da, dc, g1, g2, g3, g4⟩ := unhex_byt (n := m) Y (w := ws.getD 2 []) (by omega) (by omega) h1 (nx + 12 + 20 + 9)
    rw [g1]
    simp only [mst_, mst5_]
    have l2 := g2.1
    have t2 := (g2.2 i (by omega)).trans t1
    have r2 := (g2.2 nx0 (by omega)).trans r1
    have p2 := p1.ext (nx' := n2) ⟨by omega, fun j hj => g2.2 j (by omega)⟩
    rw [st_set t2 rfl (by simp) rfl]
    simp only [List.set_cons_succ, List.set_cons_zero]
    generalize hda : (unhexL (ws.getD 2 [])).getD [] = data at *
    generalize hh3 : AHeap.put h2 i (some ⟨[.int .i64 code, .bool false, .int .i64 (numL (ws.getD 1 [])).1, .slice da (ob data).length dc, .slice none 0 none], 5, true⟩) = h3
    have f3 : Frm (fun j => j = i) h2 n2 h3 (n2 + 14) := by rw [← hh3]; exact (Frm.refl _ h2 n2).put (.inl rfl) (by omega)
    have t3 : h3 i = some ⟨[.int .i64 code, .bool false, .int .i64 (numL (ws.getD 1 [])).1, .slice da (ob data).length dc, .slice none 0 none], 5, true⟩ := by rw [← hh3]; exact put_same _ _ _
    have r3 : h3 nx0 = some ⟨l0, 5, true⟩ := (f3.2 nx0 (by omega) (by omega)).trans r2
    have p3 := p2.fr (av_es p2 t2 (by omega)) f3
    have d3 := g3.fr (av_es g3 t2 (by omega)) f3
    have o3 : ∀ j, j < nx0 → h3 j = h j := fun j hj => (f3.2 j (by omega) (by omega)).trans ((g2.2 j (by omega)).trans (o1 j hj))
    have v3 : Av (Old nx0) da (ob data).length := fun hn pp e q => g4 hn pp e (by unfold Old at q ⊢; omega)
    clear hh3
    obtain ⟨c1, c2, _⟩ := p3.cut pc (lo := 3) (hi := ws.length) c3 (Nat.le_refl _) (l := some (.int .i64 3)) (r := none) (bound_some (i := 3) (by omega)) bound_none
    rw [c1]
    simp only [mst_, mst5_]
    have e2 : (((ws.map B).map AV.str).drop (3 * 1)).take ((ws.length - 3) * 1) = ((ws.drop 3).map B).map AV.str := by
      rw [List.take_of_length_le (by simp), List.map_drop, List.map_drop]
    have el : ws.length - 3 = (ws.drop 3).length := by simp
    rw [e2, el] at c2
    rw [el]
    generalize shiftAddr pa (3 * 1) = pb at *
    have ht : toldT code ws = ⟨code, decide ((ws.drop 3).head? = some doneW), (numL (ws.getD 1 [])).1, data, ((if decide ((ws.drop 3).head? = some doneW) = true then (ws.drop 3).drop 1 else ws.drop 3).map B)⟩ := by
      unfold toldT; rw [if_pos c3, hda]
    generalize ws.drop 3 = rs at *
    have step : ∀ (b : Bool) (z' : Nat), n2 ≤ z' → b = decide (rs.head? = some doneW) →
        HearRes h nx0 (hearV (toldT code ws) s) (F9_J2 (callP Tryd.prog keepT m) Y lf s (some (nx0, 0)) pb rs.length (some (capCut ws.length pc 3)) (some (i, 0)) (h3.put i (some ⟨[.int .i64 code, .bool b, .int .i64 (numL (ws.getD 1 [])).1, .slice da (ob data).length dc, .slice none 0 none], 5, true⟩)) (n2 + 14)) := by
      intro b z' hz' hb
      have f4 : Frm (fun j => j = i) h3 (n2 + 14) (h3.put i (some ⟨[.int .i64 code, .bool b, .int .i64 (numL (ws.getD 1 [])).1, .slice da (ob data).length dc, .slice none 0 none], 5, true⟩)) (n2 + 14) := (Frm.refl _ h3 _).put (.inl rfl) (by omega)
      obtain ⟨row, h', nx', k1, k2, k3⟩ := hear2 (s := s) hm Y lf (some (capCut ws.length pc 3)) hi (by omega) hl0 ((put_ne (by omega)).trans r3) (put_same h3 i _) (d3.fr (av_es d3 t3 (by omega)) f4) v3 (c2.fr (av_es c2 t3 (by omega)) f4) (fun q => by
        rw [hb] at q
        cases rs with
        | nil => simp at q
        | cons => simp) (t := toldT code ws) (by rw [ht, hb]) z
      exact ⟨row, h', nx', k1, ⟨k2.1, fun j hj => (k2.2 j hj).trans ((put_ne (by omega)).trans (o3 j hj))⟩, k3⟩
    cases rs with
    | nil =>
      rw [if_neg (by simp), st_set t3 rfl (by simp) rfl]
      simp only [List.set_cons_succ, List.set_cons_zero]
      exact step false (n2 + 14) (by omega) (by simp)
    | cons w rs' =>
      rw [if_pos (by simp), c2.read0 (i := 0) (by omega) (by simp) (by omega) (word_get (j := 0) (by simp))]
      simp only [mst_, mst5_]
      rw [st_set t3 rfl (by simp) rfl]
      simp only [List.set_cons_succ, List.set_cons_zero]
      rw [tl_beq, show (ByteArray.mk #[100, 111, 110, 101]) = B doneW from rfl, B_eq_iff]
      exact step _ (n2 + 14) (by omega) (by simp)
  · rw [if_neg (by simp; omega)]
    have ht : toldT code ws = ⟨code, false, 0, [], []⟩ := by unfold toldT; rw [if_neg c3]
    rw [ht] at z ⊢
    obtain ⟨row, h', nx', k1, k2, k3⟩ := hear3 (s := s) hm Y lf (t := ⟨code, false, 0, [], []⟩) (da := none) (ea := none) (dc := none) (ec := none) hi (show i < nx + 3 by omega) hl0 hr ti ⟨rfl, fun j hj => by simp [ob] at hj⟩ Av.none ⟨rfl, fun j hj => by simp at hj⟩ z
    exact ⟨row, h', nx', k1, k2, k3⟩

theorem hear_spec {n : Nat} (Y : YldF) {s : ByteArray} (hn : s.size + 30 ≤ n) (hs : s.size ≤ 1000000000) (h : AHeap) (nx : Nat) (z : ∀ n', n ≤ n' + 1 → (toldL (cutW s.data.toList)).Small n') :
    HearRes h nx (hearP s.data.toList) (callP Tryd.prog keepT n Y 9 [.str s] h nx) := by
  obtain ⟨n, rfl⟩ : ∃ m, n = m + 2 := ⟨n - 2, by omega⟩
  have hlen : s.data.toList.length = s.size := Array.length_toList
  rw [F9_eq]
  dsimp only
  rw [split_spec n Y (by omega)]
  simp only [mst_, mst5_]
  have z := z (n + 1) (by omega)
  have hlw : (wordsOf s).length = (cutW s.data.toList).length := by simp [wordsOf]
  rw [hlw]
  have hpos : 0 < (cutW s.data.toList).length := List.length_pos_iff.2 (cutW_ne _)
  have hmem : ∀ w ∈ cutW s.data.toList, w.length + 10 ≤ n + 1 ∧ w.length ≤ 1000000000 := fun w hw => by
    have := cutW_le _ w hw
    omega
  unfold wordsOf
  rw [show hearP s.data.toList = hearV (toldL (cutW s.data.toList)) s from rfl]
  generalize hW : cutW s.data.toList = ws at *
  generalize hh : AHeap.put (AHeap.put (AHeap.put h nx _) (nx + 5) _) (nx + 5 + 1) _ = h1
  have r1 : h1 nx = some ⟨[.int .i64 0, .bool false, .int .i64 0, .slice none 0 none, .slice none 0 none], 5, true⟩ := by rw [← hh, put_ne (by omega), put_ne (by omega), put_same]
  have t1 : h1 (nx + 5 + 1) = some ⟨[.int .i64 0, .bool false, .int .i64 0, .slice none 0 none, .slice none 0 none], 5, true⟩ := by rw [← hh, put_same]
  have b1 : h1 (nx + 5) = some ⟨(ws.map B).map AV.str, 1, true⟩ := by rw [← hh, put_ne (by omega), put_same]
  have o1 : ∀ j, j < nx → h1 j = h j := fun j hj => by rw [← hh, put_ne (by omega), put_ne (by omega), put_ne (by omega)]
  clear hh
  have p1 : Sl h1 (nx + 6) (some (nx + 5, 0)) ws.length 1 ((ws.map B).map AV.str) := ⟨by simp, fun j hj => ⟨_, _, rfl, by simp, b1, rfl, by simp, fun q hq => by simp⟩⟩
  have fin : ∀ {o : Option Tld} {r : Option (AV × AHeap × Nat)}, HearRes h1 nx o r → HearRes h nx o r := fun {o r} ⟨row, h', nx', k1, k2, k3⟩ => ⟨row, h', nx', k1, ⟨k2.1, fun j hj => (k2.2 j hj).trans (o1 j hj)⟩, k3⟩
  rw [if_pos ⟨by omega, by omega⟩]
  have g0 : ((ws.map B).map AV.str)[0 + Int.toNat 0 * 1]? = some (.str (B (ws.getD 0 []))) := word_get (j := 0) hpos
  rw [ld_at b1 g0]
  simp only [mst_, mst5_]
  rw [tl_beq, show (ByteArray.mk #[110, 111]) = B noW from rfl, B_eq_iff]
  unfold toldL at z ⊢
  have plain : ∀ z', nx + 5 + 1 < z' → (toldT 0 ws).Small (n + 1) → HearRes h nx (hearV (toldT 0 ws) s) (F9_J1 (callP Tryd.prog keepT (n + 1)) Y (n + 1) s (some (nx, 0)) (some (nx + 5, 0)) ws.length (some ws.length) (some (nx + 5 + 1, 0)) h1 z') := fun z' hz' zz =>
    fin (hear1 (by omega) Y (n + 1) (some ws.length) (by omega) hz' rfl r1 t1 (p1.ext ⟨by omega, fun _ _ => rfl⟩) hmem zz)
  by_cases c1 : ws.getD 0 [] = noW
  · by_cases c2 : 1 < ws.length
    · rw [if_pos ⟨c1, c2⟩] at z ⊢
      rw [if_pos (by simpa using c1), if_pos (by simp; omega), if_pos ⟨by omega, by omega⟩]
      have g1 : ((ws.map B).map AV.str)[0 + Int.toNat 1 * 1]? = some (.str (B (ws.getD 1 []))) := by rw [Nat.zero_add]; exact word_get (j := 1) c2
      rw [ld_at b1 g1]
      simp only [mst_, mst5_]
      have m1 := hmem _ (getD_mem (ws := ws) (j := 1) c2)
      rw [number_spec (n := n + 1) (by omega) Y (s := B (ws.getD 1 [])) (by rw [B_size]; omega), B_data]
      simp only [mst_, mst5_]
      obtain ⟨k1, k2, k3⟩ := p1.cut (some ws.length) (lo := 1) (hi := ws.length) (by omega) (Nat.le_refl _) (l := some (.int .i64 1)) (r := none) (bound_some (i := 1) (by omega)) bound_none
      rw [k1]
      simp only [mst_, mst5_]
      have e2 : (((ws.map B).map AV.str).drop (1 * 1)).take ((ws.length - 1) * 1) = ((ws.drop 1).map B).map AV.str := by
        rw [List.take_of_length_le (by simp), List.map_drop, List.map_drop]
      have el : ws.length - 1 = (ws.drop 1).length := by simp
      rw [e2, el] at k2
      rw [el, st_set t1 rfl (by simp) rfl]
      simp only [List.set_cons_succ, List.set_cons_zero]
      rw [ifApart_pos (by exact ⟨fun x hx hy => by simp [rdOf] at hx hy; omega, trivial⟩)]
      refine fin ?_
      have f : Frm (fun j => j = nx + 5 + 1) h1 (nx + 7) (h1.put (nx + 5 + 1) (some ⟨[.int .i64 (numL (ws.getD 1 [])).1, .bool false, .int .i64 0, .slice none 0 none, .slice none 0 none], 5, true⟩)) (nx + 5 + 1 + 19 + 20 + 6) := (Frm.refl _ h1 _).put (.inl rfl) (by omega)
      have k2' := k2.ext (nx' := nx + 7) ⟨by omega, fun _ _ => rfl⟩
      obtain ⟨row, h', nx', q1, q2, q3⟩ := hear1 (s := s) (m := n + 1) (by omega) Y (n + 1) (some (capCut ws.length (some ws.length) 1)) (show nx < nx + 5 + 1 by omega) (by omega) rfl ((put_ne (by omega)).trans r1) (put_same h1 (nx + 5 + 1) _) (k2'.fr (av_es k2' t1 (by omega)) f) (fun w hw => hmem w (List.mem_of_mem_drop hw)) z
      exact ⟨row, h', nx', q1, ⟨q2.1, fun j hj => (q2.2 j hj).trans (put_ne (by omega))⟩, q3⟩
    · rw [if_neg (fun q => c2 q.2)] at z ⊢
      rw [if_pos (by simpa using c1), if_neg (by simp; omega)]
      exact plain _ (by omega) z
  · rw [if_neg (fun q => c1 q.1)] at z ⊢
    rw [if_neg (by simpa using c1)]
    exact plain _ (by omega) z
end Go.Proofs.YtahilinkfnchaaaDoor.T
