/- Desk: Show. -/
import Derived.Test.YtahilinkfnchaaaDoorDJ
set_option linter.unusedVariables false
set_option linter.unusedSimpArgs false
namespace Go.Proofs.YtahilinkfnchaaaDoor.T
open Go Go.RowKit Go.Proofs
set_option maxRecDepth 10000

theorem push_part {h : AHeap} {nx0 nx : Nat} {pa : Option (Nat × Nat)} {ps : List (List UInt8)} (w : OwnSl h nx0 nx pa ps.length 1 ((ps.map B).map AV.str)) (pc : Option Nat) {id : Nat} (hid : nx ≤ id) (h0 : nx0 ≤ nx) (hps : ps.length ≤ 100) (wd : List UInt8) :
    ∃ e, appD (h.put id (some ⟨[.str (B wd)], 1, true⟩)) pa ps.length pc 1 16 (id + 1) (1, [.str (B wd)], [id]) = some e ∧ e.n = (ps ++ [wd]).length ∧ OwnSl ((h.put id (some ⟨[.str (B wd)], 1, true⟩)).puts e.sets) nx0 (id + 2) e.a (ps ++ [wd]).length 1 (((ps ++ [wd]).map B).map AV.str) ∧
      (∀ j, j < nx0 → ((h.put id (some ⟨[.str (B wd)], 1, true⟩)).puts e.sets) j = h j) ∧ ∀ r l es b, h r = some ⟨l, es, b⟩ → es ≠ 1 → r < nx → ((h.put id (some ⟨[.str (B wd)], 1, true⟩)).puts e.sets) r = some ⟨l, es, b⟩ := by
  obtain ⟨e, f1, f2, f3, f4⟩ := w.push (c := pc) (bytes := 16) (id := id) (id2 := id + 1) (ws := [.str (B wd)]) rfl (growOk_of (by omega) (by omega)) h0 hid (by omega)
  have hc : (ps.map B).map AV.str ++ [.str (B wd)] = ((ps ++ [wd]).map B).map AV.str := by simp
  have hl : ps.length + 1 = (ps ++ [wd]).length := by simp
  rw [hc, hl] at f3
  refine ⟨e, f1, by rw [f2, hl], f3, fun j hj => f4.2 j hj, fun r l es b hr hes hlt => ?_⟩
  obtain ⟨a1, _⟩ := app_own f1
  rw [puts_get _ _ (fun q => by
    rcases a1 r q with q | q
    · exact own_ne w hr hes q
    · omega), put_ne (by omega), hr]
structure Com.Small (c : Com) (m : Nat) : Prop where
  n : c.name.size + 20 ≤ m
  n2 : c.name.size ≤ 1000000000
  o : c.other.size + 20 ≤ m
  o2 : c.other.size ≤ 1000000000
  f1 : -9223372036854775808 ≤ c.off
  f2 : c.off ≤ 9223372036854775807
  c1 : -9223372036854775808 ≤ c.count
  c2 : c.count ≤ 9223372036854775807
  d1 : -9223372036854775808 ≤ c.drive
  d2 : c.drive ≤ 9223372036854775807
  k1 : -9223372036854775808 ≤ c.keep
  k2 : c.keep ≤ 9223372036854775807
  x : c.data.length ≤ 100000000
theorem itD_at {h : AHeap} {it : Nat} {s : ByteArray} {pos : Nat} (e : h it = some ⟨itC s pos, MB, true⟩) : itD h it = some (s, pos) := by
  unfold itD; rw [e]; simp [itC, mapB]

set_option maxHeartbeats 4000000 in
theorem show_loop {m : Nat} (hm : 20 ≤ m) (Y : YldF) (lf : Nat) {sg : List UInt8} (hsg : ∀ s ∈ sg, isSign s) {cb it nx0 nx1 : Nat} : ∀ (k n0 pos nx : Nat) (h : AHeap) (c : Com) (da pa : Option (Nat × Nat)) (dc pc : Option Nat) (ps qs : List (List UInt8)) (c' : Com), sg.length = pos + k → k < n0 → nx1 ≤ cb → cb < nx0 → nx0 ≤ it → it < nx → ps.length + k ≤ 100 →
    h cb = some ⟨comV c da dc, 8, true⟩ → h it = some ⟨itC (B sg) pos, MB, true⟩ → OwnSl h nx0 nx pa ps.length 1 ((ps.map B).map AV.str) → Sl h nx1 da (ob c.data).length 1 (ints .u8 (ob c.data)) → c.Small m → showL (sg.drop pos) c = some (qs, c') → c'.bare → (joinW (ps ++ qs)).length ≤ 140737488355328 →
    ∃ h' nx', F12_L2 (callP Tryd.prog keepT m) Y lf n0 (some (cb, 0)) pa ps.length pc (some (it, 0)) h nx = some (toldV (some (joinW (ps ++ qs))), h', nx') ∧ Ext h nx1 h' nx' := by
  intro k
  induction k with
  | zero =>
    intro n0 pos nx h c da pa dc pc ps qs c' hk hn h1 h2 h3 h4 hps tc ti w d z hshow hbare hj
    obtain ⟨n0, rfl⟩ : ∃ q, n0 = q + 1 := ⟨n0 - 1, by omega⟩
    obtain ⟨m, rfl⟩ : ∃ q, m = q + 1 := ⟨m - 1, by omega⟩
    rw [List.drop_eq_nil_of_le (by omega)] at hshow
    simp only [showL, Option.some.injEq, Prod.mk.injEq] at hshow
    obtain ⟨rfl, rfl⟩ := hshow
    obtain ⟨b1, b2, b3, b4, b5, b6, b7⟩ := hbare
    unfold comV at tc
    rw [F12_L2_eq]
    simp only [mst_, mst5_]
    rw [if_pos (by rfl), itD_at ti]
    simp only [mst_, mst5_]
    rw [if_neg (by rw [B_size]; simp; omega), ld_at tc (show _ = some (AV.str c.name) from rfl)]
    simp only [mst_, mst5_]
    rw [ld_at tc (show _ = some (AV.str c.other) from rfl)]
    simp only [mst_, mst5_]
    rw [b1, b2, if_neg (by decide), if_neg (by rw [tl_beq]; decide), ld_at tc (show _ = some (AV.int .i64 c.off) from rfl)]
    simp only [mst_, mst5_]
    rw [ld_at tc (show _ = some (AV.int .i64 c.count) from rfl)]
    simp only [mst_, mst5_]
    rw [ld_at tc (show _ = some (AV.int .i64 c.drive) from rfl)]
    simp only [mst_, mst5_]
    rw [ld_at tc (show _ = some (AV.int .i64 c.keep) from rfl)]
    simp only [mst_, mst5_]
    rw [b3, b4, b5, b6, if_neg (by decide +kernel), ld_at tc (show _ = some (AV.slice da (ob c.data).length dc) from rfl)]
    simp only [mst_, mst5_]
    rw [if_neg (by rw [b7]; simp [ob]), F12_J3_eq, join_spec m Y w.sl (by rw [strB]; simpa using hj) (by simp; omega)]
    simp only [mst_, mst5_]
    rw [strB, List.append_nil]
    exact ⟨h, _, rfl, ⟨by omega, fun _ _ => rfl⟩⟩
  | succ k ih =>
    intro n0 pos nx h c da pa dc pc ps qs c' hk hn h1 h2 h3 h4 hps tc ti w d z hshow hbare hj
    obtain ⟨n0, rfl⟩ : ∃ q, n0 = q + 1 := ⟨n0 - 1, by omega⟩
    have hp : pos < sg.length := by omega
    rw [List.drop_eq_getElem_cons hp] at hshow
    have hs := hsg _ (List.getElem_mem hp)
    have hdec := word_sign hsg hp
    rw [F12_L2_eq]
    simp only [mst_, mst5_]
    rw [if_pos (by rfl), itD_at ti]
    simp only [mst_, mst5_]
    rw [if_pos (by rw [B_size, Nat.blt_eq]; exact hp), hdec]
    dsimp only
    obtain ⟨hA, hhA⟩ : ∃ hA, hA = h.put it (some ⟨itC (B sg) (pos + 1), MB, true⟩) := ⟨_, rfl⟩
    rw [← hhA]
    have oA : ∀ j, j ≠ it → hA j = h j := fun j hj => by rw [hhA, put_ne hj]
    have tA : hA it = some ⟨itC (B sg) (pos + 1), MB, true⟩ := by rw [hhA, put_same]
    have cA := (oA cb (by omega)).trans tc
    have wA' : OwnSl hA nx0 nx pa ps.length 1 ((ps.map B).map AV.str) := by
      refine ⟨w.1, ?_⟩
      rcases w.2 with q | ⟨i, q1, q2, q3, q4⟩
      · exact .inl q
      · exact .inr ⟨i, q1, q2, q3, (oA i (fun e => own_ne w ti (by decide) ⟨0, by rw [q1, e]⟩)).trans q4⟩
    have dA : Sl hA nx1 da (ob c.data).length 1 (ints .u8 (ob c.data)) := d.ext ⟨Nat.le_refl _, fun j hj => oA j (by omega)⟩
    clear hhA
    obtain ⟨n4, l4, f4⟩ := field_spec (n := m) (by omega) Y hs cb hA (nx + 13)
    rw [f4]
    generalize hsv : sg[pos]'hp = s at *
    clear f4 hsv
    have go : ∀ (hB : AHeap) (nB nC : Nat) (wd : List UInt8) (c1 : Com) (da1 : Option (Nat × Nat)) (dc1 : Option Nat) (off : Nat) (v : AV), (comV c da dc).set off v = comV c1 da1 dc1 → v.cells = [v] → allOne [v] = true → off < 8 → (∀ j, j < nx → hB j = hA j) → nx ≤ nB → nB + 2 ≤ nC → c1.Small m → Sl hB nx1 da1 (ob c1.data).length 1 (ints .u8 (ob c1.data)) → showS s c = some (wd, c1) →
        ∃ h' nx', ((appD (hB.put nB (some ⟨[.str (B wd)], 1, true⟩)) pa ps.length pc 1 16 (nB + 1) (1, [.str (B wd)], [nB])).bind fun e =>
          (stA ((hB.put nB (some ⟨[.str (B wd)], 1, true⟩)).puts e.sets) cb off v 1).bind fun b =>
          F12_L2 (callP Tryd.prog keepT m) Y lf n0 (some (cb, 0)) e.a e.n e.c (some (it, 0)) (AHeap.put ((hB.put nB (some ⟨[.str (B wd)], 1, true⟩)).puts e.sets) cb (some b)) nC) = some (toldV (some (joinW (ps ++ qs))), h', nx') ∧ Ext h nx1 h' nx' := by
      intro hB nB nC wd c1 da1 dc1 off v hset hv1 hv2 hoff hBA hnB hnC z1 d1 hs1
      have wB : OwnSl hB nx0 nx pa ps.length 1 ((ps.map B).map AV.str) := wA'.ext ⟨Nat.le_refl _, hBA⟩
      obtain ⟨e, e1, e2, e3, e4, e5⟩ := push_part wB pc hnB (by omega) (by omega) wd
      rw [e1]
      simp only [mst_, mst5_]
      have cC := (e4 cb h2).trans ((hBA cb (by omega)).trans cA)
      have tC := e5 it _ _ _ ((hBA it h4).trans tA) (by decide) h4
      rw [st_set cC hv1 (by show off < 8; exact hoff) hv2, hset, e2]
      generalize (hB.put nB (some ⟨[.str (B wd)], 1, true⟩)).puts e.sets = hC at *
      rw [showL, hs1, Option.bind_some] at hshow
      obtain ⟨⟨rs, cz⟩, hr, hq⟩ := Option.bind_eq_some_iff.1 hshow
      simp only [Option.some.injEq, Prod.mk.injEq] at hq
      obtain ⟨rfl, rfl⟩ := hq
      have hjj : ps ++ wd :: rs = (ps ++ [wd]) ++ rs := by simp
      rw [hjj] at hj ⊢
      have w2 : OwnSl (hC.put cb (some ⟨comV c1 da1 dc1, 8, true⟩)) nx0 nC e.a (ps ++ [wd]).length 1 (((ps ++ [wd]).map B).map AV.str) := by
        refine ⟨e3.1, ?_⟩
        rcases e3.2 with q | ⟨i, q1, q2, q3, q4⟩
        · exact .inl q
        · exact .inr ⟨i, q1, q2, by omega, (put_ne (by omega)).trans q4⟩
      obtain ⟨h', nx', g1, g2⟩ := ih n0 (pos + 1) nC _ c1 da1 e.a dc1 e.c (ps ++ [wd]) rs cz (by omega) (by omega) h1 h2 h3 (by omega) (by simp; omega) (put_same hC cb _) ((put_ne (by omega)).trans tC) w2
        (d1.ext ⟨Nat.le_refl _, fun j hj => (put_ne (by omega)).trans (e4 j (by omega))⟩) z1 hr hbare hj
      exact ⟨h', nx', g1, ⟨g2.1, fun j hj => (g2.2 j hj).trans ((put_ne (by omega)).trans ((e4 j (by omega)).trans ((hBA j (by omega)).trans (oA j (by omega)))))⟩⟩
    unfold comV at cA
    rcases hs with rfl | rfl | rfl | rfl | rfl | rfl | rfl
    · -- 110
      rw [if_pos (by decide), if_neg (by decide), if_neg (by decide)]
      simp only [mst_, mst5_]
      rw [if_pos (by rfl), ld_at cA (show _ = some (AV.str c.name) from rfl)]
      simp only [mst_, mst5_]
      obtain ⟨hB, nB, g1, g2⟩ := name_spec (n := m) Y (s := c.name) (by have := z.n; omega) z.n2 hA (n4 + 8)
      rw [g1]
      simp only [mst_, mst5_]
      have lB := g2.1
      have cB := (g2.2 cb (by omega)).trans cA
      cases hg : goodName c.name with
      | false => simp [showL, showS, hg] at hshow
      | true =>
        rw [if_neg (by simp), ld_at cB (show _ = some (AV.str c.name) from rfl)]
        simp only [mst_, mst5_]
        rw [srcOne]
        simp only [mst_, mst5_]
        rw [show AV.str c.name = AV.str (B c.name.data.toList) by rw [B_of]]
        exact go hB (nB + 5) (nB + 10) c.name.data.toList { c with name := nE } da dc 1 (.str nE) rfl rfl rfl (by decide) (fun j hj => g2.2 j (by omega)) (by omega) (by omega) { z with n := by show 0 + 20 ≤ m; omega, n2 := Nat.zero_le _ } (dA.ext ⟨Nat.le_refl _, fun j hj => g2.2 j (by omega)⟩) (by simp [showS, hg])
    · -- 111
      rw [if_pos (by decide), if_neg (by decide), if_neg (by decide)]
      simp only [mst_, mst5_]
      rw [if_pos (by rfl), ld_at cA (show _ = some (AV.str c.other) from rfl)]
      simp only [mst_, mst5_]
      obtain ⟨hB, nB, g1, g2⟩ := name_spec (n := m) Y (s := c.other) (by have := z.o; omega) z.o2 hA (n4 + 8)
      rw [g1]
      simp only [mst_, mst5_]
      have lB := g2.1
      have cB := (g2.2 cb (by omega)).trans cA
      cases hg : goodName c.other with
      | false => simp [showL, showS, hg] at hshow
      | true =>
        rw [if_neg (by simp), ld_at cB (show _ = some (AV.str c.other) from rfl)]
        simp only [mst_, mst5_]
        rw [srcOne]
        simp only [mst_, mst5_]
        rw [show AV.str c.other = AV.str (B c.other.data.toList) by rw [B_of]]
        exact go hB (nB + 5) (nB + 10) c.other.data.toList { c with other := nE } da dc 2 (.str nE) rfl rfl rfl (by decide) (fun j hj => g2.2 j (by omega)) (by omega) (by omega) { z with o := by show 0 + 20 ≤ m; omega, o2 := Nat.zero_le _ } (dA.ext ⟨Nat.le_refl _, fun j hj => g2.2 j (by omega)⟩) (by simp [showS, hg])
    · -- 102
      rw [if_neg (by decide), if_pos (by decide), if_neg (by decide)]
      simp only [mst_, mst5_]
      rw [if_neg (by simp), if_pos (by rfl), ld_at cA (show _ = some (AV.int .i64 c.off) from rfl)]
      simp only [mst_, mst5_]
      obtain ⟨m', rfl⟩ : ∃ q, m = q + 1 := ⟨m - 1, by omega⟩
      rw [itoa_spec m' Y z.f1 z.f2]
      simp only [mst_, mst5_]
      rw [srcOne]
      simp only [mst_, mst5_]
      exact go hA (n4 + 12) (n4 + 17) (Lib.itoa c.off) { c with off := 0 } da dc 3 (.int .i64 0) rfl rfl rfl (by decide) (fun j hj => rfl) (by omega) (by omega) { z with f1 := by show (-9223372036854775808 : Int) ≤ 0; decide, f2 := by show (0 : Int) ≤ 9223372036854775807; decide } dA rfl
    · -- 99
      rw [if_neg (by decide), if_pos (by decide), if_neg (by decide)]
      simp only [mst_, mst5_]
      rw [if_neg (by simp), if_pos (by rfl), ld_at cA (show _ = some (AV.int .i64 c.count) from rfl)]
      simp only [mst_, mst5_]
      obtain ⟨m', rfl⟩ : ∃ q, m = q + 1 := ⟨m - 1, by omega⟩
      rw [itoa_spec m' Y z.c1 z.c2]
      simp only [mst_, mst5_]
      rw [srcOne]
      simp only [mst_, mst5_]
      exact go hA (n4 + 12) (n4 + 17) (Lib.itoa c.count) { c with count := 0 } da dc 4 (.int .i64 0) rfl rfl rfl (by decide) (fun j hj => rfl) (by omega) (by omega) { z with c1 := by show (-9223372036854775808 : Int) ≤ 0; decide, c2 := by show (0 : Int) ≤ 9223372036854775807; decide } dA rfl
    · -- 100
      rw [if_neg (by decide), if_pos (by decide), if_neg (by decide)]
      simp only [mst_, mst5_]
      rw [if_neg (by simp), if_pos (by rfl), ld_at cA (show _ = some (AV.int .i64 c.drive) from rfl)]
      simp only [mst_, mst5_]
      obtain ⟨m', rfl⟩ : ∃ q, m = q + 1 := ⟨m - 1, by omega⟩
      rw [itoa_spec m' Y z.d1 z.d2]
      simp only [mst_, mst5_]
      rw [srcOne]
      simp only [mst_, mst5_]
      exact go hA (n4 + 12) (n4 + 17) (Lib.itoa c.drive) { c with drive := 0 } da dc 5 (.int .i64 0) rfl rfl rfl (by decide) (fun j hj => rfl) (by omega) (by omega) { z with d1 := by show (-9223372036854775808 : Int) ≤ 0; decide, d2 := by show (0 : Int) ≤ 9223372036854775807; decide } dA rfl
    · -- 107
      rw [if_neg (by decide), if_pos (by decide), if_neg (by decide)]
      simp only [mst_, mst5_]
      rw [if_neg (by simp), if_pos (by rfl), ld_at cA (show _ = some (AV.int .i64 c.keep) from rfl)]
      simp only [mst_, mst5_]
      obtain ⟨m', rfl⟩ : ∃ q, m = q + 1 := ⟨m - 1, by omega⟩
      rw [itoa_spec m' Y z.k1 z.k2]
      simp only [mst_, mst5_]
      rw [srcOne]
      simp only [mst_, mst5_]
      exact go hA (n4 + 12) (n4 + 17) (Lib.itoa c.keep) { c with keep := 0 } da dc 6 (.int .i64 0) rfl rfl rfl (by decide) (fun j hj => rfl) (by omega) (by omega) { z with k1 := by show (-9223372036854775808 : Int) ≤ 0; decide, k2 := by show (0 : Int) ≤ 9223372036854775807; decide } dA rfl
    · -- 120
      rw [if_neg (by decide), if_neg (by decide), if_pos (by decide)]
      simp only [mst_, mst5_]
      rw [if_neg (by simp), if_neg (by simp), if_pos (by rfl), ld_at cA (show _ = some (AV.slice da (ob c.data).length dc) from rfl)]
      simp only [mst_, mst5_]
      obtain ⟨m', rfl⟩ : ∃ q, m = q + 1 := ⟨m - 1, by omega⟩
      rw [hex_spec m' Y dA (by have := z.x; omega)]
      simp only [mst_, mst5_]
      rw [srcOne]
      simp only [mst_, mst5_]
      exact go hA (n4 + 15) (n4 + 20) (hexL c.data) { c with data := [] } none none 7 (.slice none 0 none) rfl rfl rfl (by decide) (fun j hj => rfl) (by omega) (by omega) { z with x := by show ([] : List UInt8).length ≤ _; simp } ⟨rfl, fun j hj => by simp [ob] at hj⟩ rfl

theorem tab_len : tabW.length = 19 := rfl
def wordsC : List AV := tabW.flatMap fun p => [AV.str (B p.1), AV.str (B p.2)]
theorem words_row : ∀ k : Fin 19, (wordsC.drop (k.val * 2)).take 2 = [AV.str (B (wordW k.val)), AV.str (B (sigW k.val))] := by
  intro k
  rcases k with ⟨k, hk⟩
  have : k = 0 ∨ k = 1 ∨ k = 2 ∨ k = 3 ∨ k = 4 ∨ k = 5 ∨ k = 6 ∨ k = 7 ∨ k = 8 ∨ k = 9 ∨ k = 10 ∨ k = 11 ∨ k = 12 ∨ k = 13 ∨ k = 14 ∨ k = 15 ∨ k = 16 ∨ k = 17 ∨ k = 18 := by omega
  rcases this with rfl | rfl | rfl | rfl | rfl | rfl | rfl | rfl | rfl | rfl | rfl | rfl | rfl | rfl | rfl | rfl | rfl | rfl | rfl <;> rfl
theorem words_len : wordsC.length = 38 := rfl
theorem sig_len : ∀ k, (sigW k).length ≤ 4 := by
  intro k
  by_cases hk : k < 19
  · have : ∀ k : Fin 19, (sigW k.val).length ≤ 4 := by decide
    exact this ⟨k, hk⟩
  · unfold sigW; rw [List.getD_eq_getElem?_getD, List.getElem?_eq_none (by show 19 ≤ k; omega)]; simp
theorem show_spec {n : Nat} (hn : 30 ≤ n) (Y : YldF) {h : AHeap} {nx : Nat} {c : Com} {da : Option (Nat × Nat)} {dc : Option Nat} {ws : List (List UInt8)} (hx : 0 < nx) (hg : h 0 = some ⟨wordsC, 2, false⟩) (d : Sl h nx da (ob c.data).length 1 (ints .u8 (ob c.data))) (z : ∀ m, n ≤ m + 1 → c.Small m) (hs : ShowP c ws) (hj : (joinW ws).length ≤ 140737488355328) :
    ∃ h' nx', callP Tryd.prog keepT n Y 12 [.agg (comV c da dc)] h nx = some (toldV (some (joinW ws)), h', nx') ∧ Ext h nx h' nx' := by
  obtain ⟨n, rfl⟩ : ∃ m, n = m + 1 := ⟨n - 1, by omega⟩
  obtain ⟨k1, k2, ps, c', hshow, hbare, rfl⟩ := hs
  unfold comV
  rw [F12_eq]
  dsimp only
  obtain ⟨h1, hh1⟩ : ∃ h1, h1 = h.put nx (some ⟨comV c da dc, 8, true⟩) := ⟨_, rfl⟩
  have hh1' := hh1
  unfold comV at hh1'
  rw [← hh1']
  have t1 : h1 nx = some ⟨comV c da dc, 8, true⟩ := by rw [hh1, put_same]
  have x1 : Ext h nx h1 (nx + 1) := by rw [hh1]; exact (Ext.refl h nx).put (by omega) (by omega)
  have g1 := (x1.2 0 hx).trans hg
  have d1 := d.ext x1
  have d1' : Sl h1 nx da (ob c.data).length 1 (ints .u8 (ob c.data)) := d.ext ⟨Nat.le_refl _, x1.2⟩
  clear hh1 hh1'
  have t1' := t1
  unfold comV at t1'
  rw [ld_at t1' (show _ = some (AV.int .i64 c.kind) from rfl)]
  simp only [mst_, mst5_]
  rw [if_neg (by simp; omega), ld_at t1' (show _ = some (AV.int .i64 c.kind) from rfl)]
  simp only [mst_, mst5_]
  rw [if_neg (by simp; omega), F12_J1_eq]
  simp only [mst_, mst5_]
  rw [ld_at t1' (show _ = some (AV.int .i64 c.kind) from rfl)]
  simp only [mst_, mst5_]
  obtain ⟨k, hk⟩ : ∃ k : Nat, c.kind = (k : Int) + 1 := ⟨(c.kind - 1).toNat, by omega⟩
  have hk19 : k < 19 := by omega
  have hkk : (c.kind - 1).toNat = k := by omega
  rw [hkk] at hshow hj ⊢
  have hw1 : wrapA .i64 (c.kind - 1) = (k : Int) := by rw [wA (by omega) (by omega)]; omega
  rw [hw1, if_pos ⟨by omega, by omega⟩, ldr_at (o := 0 + Int.toNat (k : Int) * 2) (n := 2) g1 (by rw [words_len, Int.toNat_natCast]; omega), Nat.zero_add, Int.toNat_natCast, words_row ⟨k, hk19⟩]
  dsimp only
  rw [st_all (n := 2) (put_same _ _ _) rfl rfl rfl]
  obtain ⟨h2, hh2⟩ : ∃ h2, h2 = AHeap.put (AHeap.put h1 (nx + 11 + 5) (some ⟨[.str (ByteArray.mk #[]), .str (ByteArray.mk #[])], 1, true⟩)) (nx + 11 + 5) (some ⟨[.str (B (wordW k)), .str (B (sigW k))], 1, true⟩) := ⟨_, rfl⟩
  rw [← hh2]
  have b2 : h2 (nx + 11 + 5) = some ⟨[.str (B (wordW k)), .str (B (sigW k))], 1, true⟩ := by rw [hh2, put_same]
  have o2 : ∀ j, j < nx + 11 → h2 j = h1 j := fun j hj => by rw [hh2, put_ne (by omega), put_ne (by omega)]
  clear hh2
  rw [if_pos ⟨by omega, by omega⟩, ld_at b2 (show _ = some (AV.str (B (wordW k))) from rfl)]
  simp only [mst_, mst5_]
  obtain ⟨h3, hh3⟩ : ∃ h3, h3 = AHeap.put h2 (nx + 11 + 9) (some ⟨[.str (B (wordW k))], 1, true⟩) := ⟨_, rfl⟩
  rw [← hh3]
  have b3 : h3 (nx + 11 + 9) = some ⟨[.str (B (wordW k))], 1, true⟩ := by rw [hh3, put_same]
  have o3 : ∀ j, j ≠ nx + 11 + 9 → h3 j = h2 j := fun j hj => by rw [hh3, put_ne hj]
  clear hh3
  have b2' := (o3 (nx + 11 + 5) (by omega)).trans b2
  rw [if_pos ⟨by omega, by omega⟩, ld_at b2' (show _ = some (AV.str (B (sigW k))) from rfl)]
  simp only [mst_, mst5_]
  have hsl := sig_len k
  have o4 : ∀ j, j < nx + 11 → (h3.put (nx + 11 + 13) (some ⟨itC (B (sigW k)) 0, MB, true⟩)) j = h1 j := fun j hj => by rw [put_ne (by omega), o3 j (by omega), o2 j hj]
  have w : OwnSl (h3.put (nx + 11 + 13) (some ⟨itC (B (sigW k)) 0, MB, true⟩)) (nx + 1) (nx + 11 + 14) (some (nx + 11 + 9, 0)) [wordW k].length 1 (([wordW k].map B).map AV.str) := ⟨rfl, .inr ⟨nx + 11 + 9, rfl, by omega, by omega, (put_ne (by omega)).trans b3⟩⟩
  obtain ⟨h', nx', q1, q2⟩ := show_loop (m := n) (by omega) Y n (sg := sigW k) (fun s hs => sig_sign hs) (cb := nx) (it := nx + 11 + 13) (nx0 := nx + 1) (nx1 := nx) (sigW k).length n 0 (nx + 11 + 14) _ c da (some (nx + 11 + 9, 0)) dc (some 1) [wordW k] ps c' (by omega) (by omega) (Nat.le_refl _) (by omega) (by omega) (by omega) (by simp; omega) ((o4 nx (by omega)).trans t1) (put_same h3 (nx + 11 + 13) _) w (d1'.ext ⟨Nat.le_refl _, fun j hj => o4 j (by omega)⟩) (z n (by omega)) hshow hbare (by simpa using hj)
  exact ⟨h', nx', q1, ⟨q2.1, fun j hj => (q2.2 j hj).trans ((o4 j (by omega)).trans (x1.2 j hj))⟩⟩
end Go.Proofs.YtahilinkfnchaaaDoor.T
