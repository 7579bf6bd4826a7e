/- Desk: Read. -/
import Derived.Test.YtahilinkfnchaaaDoorDK
set_option linter.unusedVariables false
set_option linter.unusedSimpArgs false
namespace Go.Proofs.YtahilinkfnchaaaDoor.T
open Go Go.RowKit Go.Proofs
set_option maxRecDepth 10000

def ComR (h : AHeap) (nx : Nat) (A : Nat → Prop) (c : Com) (r : List AV) : Prop := ∃ da dc, r = comV c da dc ∧ Sl h nx da (ob c.data).length 1 (ints .u8 (ob c.data)) ∧ Av A da (ob c.data).length
def zeroC : List AV := [.int .i64 0, .str (ByteArray.mk #[]), .str (ByteArray.mk #[]), .int .i64 0, .int .i64 0, .int .i64 0, .int .i64 0, .slice none 0 none]
theorem zero_com (h : AHeap) (nx : Nat) (A : Nat → Prop) : ComR h nx A noCom zeroC := ⟨none, none, rfl, ⟨rfl, fun j hj => by simp [ob, noCom] at hj⟩, fun hj => by simp [ob, noCom] at hj⟩
/-- What Read comes to. -/
def ReadRes (h : AHeap) (nx0 : Nat) (o : Option Com) (r : Option (AV × AHeap × Nat)) : Prop :=
  ∃ row h' nx', r = some (.tuple [.agg row, .int .i64 (if o.isSome then 0 else 4)], h', nx') ∧ Ext h nx0 h' nx' ∧ ComR h' nx' (Old nx0) (o.getD noCom) row
def readO (r : Com × Bool) : Option Com := if r.2 = true then some r.1 else none

set_option maxHeartbeats 4000000 in
theorem read_loop {m : Nat} (hm : 20 ≤ m) (Y : YldF) (lf : Nat) {sg : List UInt8} (hsg : ∀ s ∈ sg, isSign s) {ws : List (List UInt8)} (hws : ws.length = sg.length + 1) (sg_small : sg.length ≤ 100) (hw : ∀ w ∈ ws, w.length + 20 ≤ m ∧ w.length ≤ 1000000000) {pa : Option (Nat × Nat)} {pc : Option Nat} {nx0 rb pb cb it : Nat} (h1 : nx0 ≤ rb) (h2 : nx0 ≤ pb) (h3 : nx0 ≤ cb) (h4 : nx0 ≤ it) (d1 : rb ≠ cb) (d2 : rb ≠ it) (d3 : pb ≠ cb) (d4 : pb ≠ it) (d5 : cb ≠ it) : ∀ (k n0 pos nx : Nat) (h : AHeap) (c : Com) (da : Option (Nat × Nat)) (dc : Option Nat) (ok : Bool), sg.length = pos + k → k < n0 → pos ≤ 100 → rb < nx → pb < nx → cb < nx → it < nx →
    h rb = some ⟨zeroC, 8, true⟩ → h pb = some ⟨[.slice pa ws.length pc], 1, true⟩ → h cb = some ⟨comV c da dc, 8, true⟩ → h it = some ⟨itC (B sg) pos, MB, true⟩ → Sl h nx pa ws.length 1 ((ws.map B).map AV.str) → Sl h nx da (ob c.data).length 1 (ints .u8 (ob c.data)) → Av (Old nx0) da (ob c.data).length →
    ReadRes h nx0 (readO (readL (sg.drop pos) (ws.drop (pos + 1)) c ok)) (F13_L2 (callP Tryd.prog keepT m) Y lf n0 (some (rb, 0)) (some (pb, 0)) (some (cb, 0)) ok (some (it, 0)) h nx) := by
  intro k
  induction k with
  | zero =>
    intro n0 pos nx h c da dc ok hk hn hp1 l1 l2 l3 l4 tr tp tc ti p d dv
    obtain ⟨n0, rfl⟩ : ∃ q, n0 = q + 1 := ⟨n0 - 1, by omega⟩
    rw [List.drop_eq_nil_of_le (show sg.length ≤ pos by omega)]
    simp only [readL]
    rw [F13_L2_eq]
    simp only [mst_, mst5_]
    rw [if_pos (by rfl), itD_at ti]
    simp only [mst_, mst5_]
    rw [if_neg (by rw [B_size]; simp; omega)]
    cases ok
    · rw [if_pos (by rfl), st_all (n := 8) tr rfl rfl rfl, ldr_all (n := 8) (put_same _ _ _) rfl]
      simp only [mst_, mst5_]
      exact ⟨_, _, _, rfl, ⟨by omega, fun j hj => put_ne (by omega)⟩, zero_com _ _ _⟩
    · unfold comV at tc
      rw [if_neg (by simp), ldr_all (n := 8) tc rfl]
      simp only [mst_, mst5_]
      rw [st_all (n := 8) tr rfl rfl rfl, ldr_all (n := 8) (put_same _ _ _) rfl]
      simp only [mst_, mst5_]
      exact ⟨_, _, _, rfl, ⟨by omega, fun j hj => put_ne (by omega)⟩, da, dc, rfl, d.fr (av_es d tr (by decide)) ((Frm.refl (fun j => j = rb) h nx).put (.inl rfl) (by omega)), dv⟩
  | succ k ih =>
    intro n0 pos nx h c da dc ok hk hn hp1 l1 l2 l3 l4 tr tp tc ti p d dv
    obtain ⟨n0, rfl⟩ : ∃ q, n0 = q + 1 := ⟨n0 - 1, by omega⟩
    have hp : pos < sg.length := by omega
    have hq : pos + 1 < ws.length := by omega
    rw [List.drop_eq_getElem_cons hp, readL]
    have hs := hsg _ (List.getElem_mem hp)
    have hdec := word_sign hsg hp
    have hmem := hw _ (getD_mem (ws := ws) (j := pos + 1) hq)
    have hwd : (ws.drop (pos + 1)).getD 0 [] = ws.getD (pos + 1) [] := by
      rw [List.getD_eq_getElem?_getD, List.getD_eq_getElem?_getD, List.getElem?_drop, Nat.add_zero]
    have hdd : (ws.drop (pos + 1)).drop 1 = ws.drop (pos + 1 + 1) := by rw [List.drop_drop]
    rw [hwd, hdd]
    rw [F13_L2_eq]
    simp only [mst_, mst5_]
    rw [if_pos (by rfl), itD_at ti]
    simp only [mst_, mst5_]
    rw [if_pos (by rw [B_size, Nat.blt_eq]; exact hp), hdec]
    dsimp only
    obtain ⟨hA, hhA⟩ : ∃ hA, hA = h.put it (some ⟨itC (B sg) (pos + 1), MB, true⟩) := ⟨_, rfl⟩
    rw [← hhA]
    have oA : ∀ j, j ≠ it → hA j = h j := fun j hj => by rw [hhA, put_ne hj]
    have tA : hA it = some ⟨itC (B sg) (pos + 1), MB, true⟩ := by rw [hhA, put_same]
    have fA : Frm (fun j => j = it) h nx hA nx := ⟨Nat.le_refl _, fun j _ hj => oA j hj⟩
    have rA := (oA rb d2).trans tr
    have bA := (oA pb d4).trans tp
    have cA := (oA cb d5).trans tc
    have pA := p.fr (av_es p ti (by decide)) fA
    have dA := d.fr (av_es d ti (by decide)) fA
    clear hhA
    rw [ld_at bA (show _ = some (AV.slice pa ws.length pc) from rfl)]
    simp only [mst_, mst5_]
    rw [wsucc (by omega), pA.read0 (i := ((pos + 1 : Nat) : Int)) (by omega) (by omega) (by omega) (word_get hq)]
    simp only [mst_, mst5_]
    obtain ⟨n4, l5, f4⟩ := field_spec (n := m) (by omega) Y hs cb hA (nx + 22)
    rw [f4]
    generalize hsv : sg[pos]'hp = s at *
    generalize ws.getD (pos + 1) [] = wd at *
    clear f4 hsv
    have go : ∀ (hB : AHeap) (nC : Nat) (c1 : Com) (da1 : Option (Nat × Nat)) (dc1 : Option Nat) (off : Nat) (v : AV) (fine : Bool), (comV c da dc).set off v = comV c1 da1 dc1 → v.cells = [v] → allOne [v] = true → off < 8 → (∀ j, j < nx → hB j = hA j) → nx ≤ nC → Sl hB nC da1 (ob c1.data).length 1 (ints .u8 (ob c1.data)) → Av (Old nx0) da1 (ob c1.data).length → readS s wd c = (c1, fine) →
        ReadRes h nx0 (readO (readL (sg.drop (pos + 1)) (ws.drop (pos + 1 + 1)) (readS s wd c).1 (ok && (readS s wd c).2))) ((stA hB cb off v 1).bind fun b =>
          F13_J3 (callP Tryd.prog keepT m) Y lf n0 (some (rb, 0)) (some (pb, 0)) (some (cb, 0)) ok fine (some (it, 0)) (AHeap.put hB cb (some b)) nC) := by
      intro hB nC c1 da1 dc1 off v fine hset hv1 hv2 hoff hBA hnC dd dv1 hrs
      have cB := (hBA cb l3).trans cA
      rw [st_set cB hv1 (by show off < 8; exact hoff) hv2, hset, hrs, F13_J3_eq]
      have fC : Frm (fun j => j = cb) hB nC (hB.put cb (some ⟨comV c1 da1 dc1, 8, true⟩)) (nC + 5) := (Frm.refl _ hB nC).put (.inl rfl) (by omega)
      have pB : Sl hB nC pa ws.length 1 ((ws.map B).map AV.str) := pA.ext ⟨hnC, hBA⟩
      have key : ∀ b : Bool, ReadRes h nx0 (readO (readL (sg.drop (pos + 1)) (ws.drop (pos + 1 + 1)) c1 b)) (F13_L2 (callP Tryd.prog keepT m) Y lf n0 (some (rb, 0)) (some (pb, 0)) (some (cb, 0)) b (some (it, 0)) (AHeap.put hB cb (some ⟨comV c1 da1 dc1, 8, true⟩)) (nC + 5)) := by
        intro b
        obtain ⟨row, h', nx', g1, g2, g3⟩ := ih n0 (pos + 1) (nC + 5) _ c1 da1 dc1 b (by omega) (by omega) (by omega) (by omega) (by omega) (by omega) (by omega) ((put_ne d1).trans ((hBA rb l1).trans rA)) ((put_ne d3).trans ((hBA pb l2).trans bA)) (put_same hB cb _) ((put_ne d5.symm).trans ((hBA it l4).trans tA)) (pB.fr (av_es pB cB (by decide)) fC) (dd.fr (av_es dd cB (by decide)) fC) dv1
        exact ⟨row, h', nx', g1, ⟨g2.1, fun j hj => (g2.2 j hj).trans ((put_ne (by omega)).trans ((hBA j (by omega)).trans (oA j (by omega))))⟩, g3⟩
      cases ok
      · rw [if_neg (by simp)]
        simpa using key false
      · rw [if_pos rfl]
        simpa using key fine
    rcases hs with rfl | rfl | rfl | rfl | rfl | rfl | rfl
    · -- 110
      rw [if_pos (by decide), if_neg (by decide), if_neg (by decide)]
      simp only [mst_, mst5_]
      rw [if_pos (by rfl)]
      obtain ⟨hB, nB, g1, g2⟩ := name_spec (n := m) Y (s := B wd) (by rw [B_size]; omega) (by rw [B_size]; omega) hA (n4 + 10)
      rw [g1]
      simp only [mst_, mst5_]
      have lB := g2.1
      exact go hB nB { c with name := B wd } da dc 1 (.str (B wd)) (goodName (B wd)) rfl rfl rfl (by decide) (fun j hj => g2.2 j (by omega)) (by omega) (dA.ext ⟨by omega, fun j hj => g2.2 j (by omega)⟩) dv rfl
    · -- 111
      rw [if_pos (by decide), if_neg (by decide), if_neg (by decide)]
      simp only [mst_, mst5_]
      rw [if_pos (by rfl)]
      obtain ⟨hB, nB, g1, g2⟩ := name_spec (n := m) Y (s := B wd) (by rw [B_size]; omega) (by rw [B_size]; omega) hA (n4 + 10)
      rw [g1]
      simp only [mst_, mst5_]
      have lB := g2.1
      exact go hB nB { c with other := B wd } da dc 2 (.str (B wd)) (goodName (B wd)) rfl rfl rfl (by decide) (fun j hj => g2.2 j (by omega)) (by omega) (dA.ext ⟨by omega, fun j hj => g2.2 j (by omega)⟩) dv rfl
    · -- 102
      rw [if_neg (by decide), if_pos (by decide), if_neg (by decide)]
      simp only [mst_, mst5_]
      rw [if_neg (by simp), if_pos (by rfl), number_spec (n := m) (by omega) Y (s := B wd) (by rw [B_size]; omega), B_data]
      simp only [mst_, mst5_]
      exact go hA (n4 + 15 + 20) { c with off := (numL wd).1 } da dc 3 (.int .i64 (numL wd).1) (numL wd).2 rfl rfl rfl (by decide) (fun j hj => rfl) (by omega) (dA.ext ⟨by omega, fun _ _ => rfl⟩) dv rfl
    · -- 99
      rw [if_neg (by decide), if_pos (by decide), if_neg (by decide)]
      simp only [mst_, mst5_]
      rw [if_neg (by simp), if_pos (by rfl), number_spec (n := m) (by omega) Y (s := B wd) (by rw [B_size]; omega), B_data]
      simp only [mst_, mst5_]
      exact go hA (n4 + 15 + 20) { c with count := (numL wd).1 } da dc 4 (.int .i64 (numL wd).1) (numL wd).2 rfl rfl rfl (by decide) (fun j hj => rfl) (by omega) (dA.ext ⟨by omega, fun _ _ => rfl⟩) dv rfl
    · -- 100
      rw [if_neg (by decide), if_pos (by decide), if_neg (by decide)]
      simp only [mst_, mst5_]
      rw [if_neg (by simp), if_pos (by rfl), number_spec (n := m) (by omega) Y (s := B wd) (by rw [B_size]; omega), B_data]
      simp only [mst_, mst5_]
      exact go hA (n4 + 15 + 20) { c with drive := (numL wd).1 } da dc 5 (.int .i64 (numL wd).1) (numL wd).2 rfl rfl rfl (by decide) (fun j hj => rfl) (by omega) (dA.ext ⟨by omega, fun _ _ => rfl⟩) dv rfl
    · -- 107
      rw [if_neg (by decide), if_pos (by decide), if_neg (by decide)]
      simp only [mst_, mst5_]
      rw [if_neg (by simp), if_pos (by rfl), number_spec (n := m) (by omega) Y (s := B wd) (by rw [B_size]; omega), B_data]
      simp only [mst_, mst5_]
      exact go hA (n4 + 15 + 20) { c with keep := (numL wd).1 } da dc 6 (.int .i64 (numL wd).1) (numL wd).2 rfl rfl rfl (by decide) (fun j hj => rfl) (by omega) (dA.ext ⟨by omega, fun _ _ => rfl⟩) dv rfl
    · -- 120
      rw [if_neg (by decide), if_neg (by decide), if_pos (by decide)]
      simp only [mst_, mst5_]
      rw [if_neg (by simp), if_neg (by simp)]
      obtain ⟨hB, nB, da1, dc1, g1, g2, g3, g4⟩ := unhex_byt (n := m) Y (w := wd) (by omega) (by omega) hA (n4 + 15)
      rw [g1]
      simp only [mst_, mst5_]
      have lB := g2.1
      exact go hB nB { c with data := (unhexL wd).getD [] } da1 dc1 7 (.slice da1 (ob ((unhexL wd).getD [])).length dc1) (unhexL wd).isSome rfl rfl rfl (by decide) (fun j hj => g2.2 j (by omega)) (by omega) g3 (fun hn pp e q => g4 hn pp e (by unfold Old at q ⊢; omega)) rfl

/-! ### which word -/
def fiW (w : List UInt8) : List (List UInt8 × List UInt8) → Nat → Int
  | [], _ => -1
  | p :: l, i => if p.1 = w then (i : Int) else fiW w l (i + 1)
theorem word_at {i : Nat} (hi : i < 19) : tabW.drop i = (wordW i, sigW i) :: tabW.drop (i + 1) := by
  rw [List.drop_eq_getElem_cons (show i < tabW.length from hi)]
  congr 1
  unfold wordW sigW
  rw [List.getD_eq_getElem?_getD, List.getElem?_eq_getElem (show i < tabW.length from hi)]; rfl
theorem find_loop {m : Nat} (Y : YldF) (lf : Nat) {ws : List (List UInt8)} (hws : 0 < ws.length) {pa : Option (Nat × Nat)} {pc c0 : Option Nat} {pb nx1 : Nat} (h0 : 0 < nx1) (hpb : pb < nx1) : ∀ (k n0 i nx : Nat) (h : AHeap), 19 = i + k → k < n0 → nx1 ≤ nx → h 0 = some ⟨wordsC, 2, false⟩ → h pb = some ⟨[.slice pa ws.length pc], 1, true⟩ → Sl h nx1 pa ws.length 1 ((ws.map B).map AV.str) →
    ∃ h' nx', F29_L1 (callP Tryd.prog keepT (m + 1)) Y lf n0 (some (0, 0)) 19 c0 (.fn 30 [] [.ptr (some (pb, 0))]) ((19 : Nat) : Int) (i : Int) h nx = some (.int .i64 (fiW (ws.getD 0 []) (tabW.drop i) i), h', nx') ∧ Ext h nx1 h' nx' := by
  intro k
  induction k with
  | zero =>
    intro n0 i nx h hk hn l tg tp p
    obtain ⟨n0, rfl⟩ : ∃ q, n0 = q + 1 := ⟨n0 - 1, by omega⟩
    rw [F29_L1_eq, if_neg (by simp; omega), List.drop_eq_nil_of_le (show tabW.length ≤ i by show 19 ≤ i; omega)]
    exact ⟨h, _, rfl, ⟨by omega, fun _ _ => rfl⟩⟩
  | succ k ih =>
    intro n0 i nx h hk hn l tg tp p
    obtain ⟨n0, rfl⟩ : ∃ q, n0 = q + 1 := ⟨n0 - 1, by omega⟩
    have hi : i < 19 := by omega
    rw [F29_L1_eq, if_pos (by rw [decide_eq_true_eq]; omega), Option.bind_some, if_pos ⟨by omega, by omega⟩]
    dsimp only
    rw [ldr_at (o := 0 + Int.toNat (i : Int) * 2) (n := 2) tg (by rw [words_len, Int.toNat_natCast]; omega), Nat.zero_add, Int.toNat_natCast, words_row ⟨i, hi⟩]
    dsimp only
    rw [show asCal (AV.fn 30 [] [.ptr (some (pb, 0))]) = some (.fn 30, [], [.ptr (some (pb, 0))]) from rfl]
    simp only [mst_, mst5_]
    rw [show callC (callP Tryd.prog keepT (m + 1) Y) Y (.fn 30) = callP Tryd.prog keepT (m + 1) Y 30 from rfl, List.nil_append]
    show ∃ h' nx', (Option.bind (callP Tryd.prog keepT (m + 1) Y 30 [AV.agg [AV.str (B (wordW i)), AV.str (B (sigW i))], .ptr (some (pb, 0))] h (nx + 9)) _) = _ ∧ _
    rw [F30_eq, if_pos (by rfl)]
    dsimp only
    obtain ⟨h1, hh1⟩ : ∃ h1, h1 = h.put (nx + 9) (some ⟨[AV.str (B (wordW i)), AV.str (B (sigW i))], 1, true⟩) := ⟨_, rfl⟩
    rw [← hh1]
    have b1 : h1 (nx + 9) = some ⟨[AV.str (B (wordW i)), AV.str (B (sigW i))], 1, true⟩ := by rw [hh1, put_same]
    have x1 : Ext h nx1 h1 (nx + 20) := by rw [hh1]; exact ⟨by omega, fun j hj => put_ne (by omega)⟩
    clear hh1
    have tp1 := (x1.2 pb hpb).trans tp
    have p1 : Sl h1 nx1 pa ws.length 1 ((ws.map B).map AV.str) := p.ext ⟨Nat.le_refl _, x1.2⟩
    rw [if_pos ⟨by omega, by omega⟩, ld_at b1 (show _ = some (AV.str (B (wordW i))) from rfl)]
    simp only [mst_, mst5_]
    rw [ld_at tp1 (show _ = some (AV.slice pa ws.length pc) from rfl)]
    simp only [mst_, mst5_]
    rw [p1.read0 (i := 0) (by omega) (by omega) (by omega) (word_get (j := 0) hws)]
    simp only [mst_, mst5_]
    rw [tl_beq, B_eq_iff, word_at hi, fiW]
    by_cases c : wordW i = ws.getD 0 []
    · rw [if_pos (by simpa using c), if_pos c]
      exact ⟨h1, _, rfl, ⟨by omega, x1.2⟩⟩
    · rw [if_neg (by simpa using c), if_neg c, wsucc (by omega)]
      obtain ⟨h', nx', g1, g2⟩ := ih n0 (i + 1) (nx + 9 + 9 + 2) h1 (by omega) (by omega) (by omega) ((x1.2 0 h0).trans tg) tp1 p1
      exact ⟨h', nx', g1, ⟨g2.1, fun j hj => (g2.2 j hj).trans (x1.2 j hj)⟩⟩
theorem fiW_kind (w : List UInt8) : fiW w tabW 0 = match kindI w with | some k => (k : Int) | none => -1 := by
  have gen : ∀ (l : List (List UInt8 × List UInt8)) (i : Nat), fiW w l i = match l.findIdx? (fun p => p.1 == w) with | some k => ((i + k : Nat) : Int) | none => -1 := by
    intro l
    induction l with
    | nil => intro i; simp [fiW]
    | cons p l ih =>
      intro i
      rw [fiW, List.findIdx?_cons]
      by_cases c : p.1 = w
      · rw [if_pos c, if_pos (by simpa using c)]; simp
      · rw [if_neg c, if_neg (by simpa using c), ih]
        cases l.findIdx? (fun p => p.1 == w) with
        | none => rfl
        | some k =>
          simp only [Option.map_some]
          have : i + 1 + k = i + (k + 1) := by omega
          rw [this]
  rw [gen tabW 0]
  unfold kindI
  cases tabW.findIdx? (fun p => p.1 == w) with
  | none => rfl
  | some k => simp
theorem kind_lt {w : List UInt8} {k : Nat} (h : kindI w = some k) : k < 19 ∧ wordW k = w := by
  unfold kindI at h
  obtain ⟨hk, h1, _⟩ := List.findIdx?_eq_some_iff_getElem.1 h
  refine ⟨hk, ?_⟩
  unfold wordW
  rw [List.getD_eq_getElem?_getD, List.getElem?_eq_getElem hk]
  simpa using h1
end Go.Proofs.YtahilinkfnchaaaDoor.T
