import Derived.Test.YtalfcokiooaliaaGC
import Derived.Test.YtalfcokiooaliaaGB
set_option linter.unusedVariables false
set_option linter.unusedSimpArgs false
namespace Go.Proofs.Ytalfcokiooaliaa.T
open Go Go.RowKit Go.Proofs

theorem Scan.keep {h h' : AHeap} {nx0 nx d p a n : Nat} {lost : Nat → Bool} {m : Nat} {xa : Option (Nat × Nat)} {xc : Bool} {Z : List AV} {sa : Option (Nat × Nat)} {sc : Bool} {lv kv : Nat} {la ka : Option (Nat × Nat)} {lc kc : Bool} (S : Scan h nx0 nx d p a n lost m xa xc Z sa sc lv kv la ka lc kc) (x : ∀ j, j < nx → h' j = h j) : Scan h' nx0 nx d p a n lost m xa xc Z sa sc lv kv la ka lc kc := by
  have lv0 := S.lv0
  have lv1 := S.lv1
  have kv1 := S.kv1
  have xx : Ext h nx h' nx := ⟨Nat.le_refl _, x⟩
  exact { b0 := by rw [x _ (by omega)]; exact S.b0
          b1 := by rw [x _ (by omega)]; exact S.b1
          b2 := by rw [x _ (by omega)]; exact S.b2
          b3 := by rw [x _ (by omega)]; exact S.b3
          b4 := by rw [x _ (by omega)]; exact S.b4
          b5 := by rw [x _ (by omega)]; exact S.b5
          bb := by rw [x _ (by omega)]; exact S.bb
          sh := S.sh.ext xx
          sav := S.sav
          lv0 := lv0
          kv0 := S.kv0
          lk := S.lk
          lv1 := lv1
          kv1 := kv1
          bl := by rw [x _ lv1]; exact S.bl
          bk := by rw [x _ kv1]; exact S.bk
          ol := S.ol.go (xx.fr fun _ => False) (fun _ _ q => q) (fun _ _ q => q)
          ok := S.ok.go (xx.fr fun _ => False) (fun _ _ q => q) (fun _ _ q => q)
          l1 := S.l1
          l2 := S.l2
          dj := S.dj }


end Go.Proofs.Ytalfcokiooaliaa.T

namespace Go.Proofs.Ytalfcokiooaliaa.T
open Go Go.RowKit Go.Proofs

/-! ### the plain law: the tries of columns of which some are right -/
theorem flat_whole {Pd : List Nat} {d p n : Nat} (g : Geo d p n) (hP : Pd.length = n * 128) : ∀ i, i ≤ colN d p n - p → flatO (wholeL Pd d p n (colN d p n - p)) d p n i = Pd.take (offC d p n i * 128)
  | 0, _ => by simp [flatO, offC]
  | i + 1, h => by
    have e : (wholeL Pd d p n (colN d p n - p)).getD i [] = padW (bw d p n 0) (pieceC Pd d p n i) := by
      simp [wholeL, List.getD, List.getElem?_range (show i < colN d p n - p by omega)]
    rw [flatO_succ, flat_whole g hP i (by omega), e, padW_take (piece_len g hP (by omega))]
    show _ = Pd.take ((offC d p n i + lenC d p n (p + i)) * 128)
    unfold pieceC bw
    rw [Nat.add_mul, List.take_add]
theorem padW_self {W : Nat} {l : List Nat} (h : l.length = W) : padW W l = l := by unfold padW; rw [h, Nat.sub_self]; simp

/-- A try of which the columns that are kept are right gives the bytes. -/
theorem try_right {Pd : List Nat} {d p n : Nat} (g : Geo d p n) (hp3 : p ≤ 3) (hP : Pd.length = n * 128) (sP : Small Pd) {v : Nat → List Nat} {lost : Nat → Bool} {gs us : List Nat} (hm : ∀ k ∈ gs, k < colN d p n) (hu : UsOk d p n gs us) (hr : ∀ c, c < colN d p n → c ∉ gs → lost c = false ∧ v c = colV Pd d p n c) : tryB d p n v lost gs us = Pd := by
  have gp := g.pN
  have g8 := g.N8
  have wl := wholeL_len Pd d p n (colN d p n - p)
  have key : ∀ k, k < colN d p n → gP (colN d p n) p gs k = false → DaV (colN d p n) p (bw d p n 0) v lost k = padW (bw d p n 0) (colV Pd d p n (colOf (colN d p n) p k)) := fun k hk hg => by
    rw [gP_col gp hm hk] at hg
    obtain ⟨h1, h2⟩ := hr _ (col_lt gp hk) (by simpa using hg)
    unfold DaV fillV
    rw [if_neg (by simp [h1]), h2]
  unfold tryB
  rw [solA_only (M := wholeL Pd d p n (colN d p n - p)) wl (whole_row g hP (Nat.le_refl _)) (whole_small sP _ _ _ _) (by omega) rfl hu.1.symm hu.2.1 (fun u hu' => by have := (hu.2.2 u hu').1; omega)
    (fun k hk hg => ?_) (fun u hu' => ?_), flat_whole g hP _ (Nat.le_refl _), g.sum, List.take_of_length_le (by omega)]
  · have hc : colOf (colN d p n) p k = p + k := by unfold colOf; rw [if_pos hk]
    rw [key k (by omega) hg, hc]
    have hv : colV Pd d p n (p + k) = pieceC Pd d p n k := by unfold colV; rw [if_neg (by omega)]; congr 1; omega
    rw [hv]
    simp [wholeL, List.getD, List.getElem?_range hk]
  · obtain ⟨u1, u2⟩ := hu.2.2 u hu'
    have hc : colOf (colN d p n) p (colN d p n - p + u) = u := by unfold colOf; rw [if_neg (by omega)]; omega
    rw [key _ (by omega) u2, hc]
    have hv : colV Pd d p n u = enc (wholeL Pd d p n (colN d p n - p)) u (bw d p n 0) := by unfold colV; rw [if_pos u1]
    rw [hv, padW_self (enc_len _ _ _)]

end Go.Proofs.Ytalfcokiooaliaa.T

/- The walk over all picks, with whatever takes them. -/
namespace Go.Proofs.Ytalfcokiooaliaa.T
open Go Go.RowKit Go.Proofs

/-- One value behind a slice of which the block may hold more. -/
theorem push_at {h : AHeap} {id j : Nat} {cs q : List AV} (c : Bool) {v : AV} {bytes : Nat} (rd : List Nat) (hid : h id = some ⟨cs, 1, true⟩) (hl : q.length ≤ cs.length) (hq : cs.take q.length = q) (hg : growOk (q.length + 1) bytes = true) (hne : j ≠ id) :
    ∃ st rd', appD h (some (id, 0)) q.length c 1 bytes j (1, [v], rd) = some ⟨some (j, 0), q.length + 1, false, st, rd'⟩ ∧ (h.puts st) j = some ⟨q ++ [v], 1, true⟩ ∧ ∀ i, i ≠ j → i ≠ id → (h.puts st) i = h i := by
  unfold appD
  rw [if_neg (by simp), if_pos hg]
  simp only [hid, Option.bind_some]
  rw [if_pos (by simp; exact hl)]
  cases c with
  | true =>
    refine ⟨_, _, by rw [if_pos rfl], ?_, fun i h1 h2 => ?_⟩
    · simp [hq]
    · simp [put_ne h1]
  | false =>
    refine ⟨[(id, none), (j, some ⟨(cs.drop 0).take (q.length * 1) ++ [v], 1, true⟩)], id :: rd, by simp, ?_, fun i h1 h2 => ?_⟩
    · simp [hq]
    · simp [put_ne h1, put_ne h2]

/-! ### picks, in plain Lean -/
def picksL (f : Nat → List (List Nat)) : Nat → Nat → List (List Nat)
  | 0, _ => []
  | d + 1, x => (f (x + 1)).map (x :: ·) ++ picksL f d (x + 1)
def picks (n : Nat) : Nat → Nat → List (List Nat)
  | 0, _ => [[]]
  | r + 1, from_ => picksL (picks n r) (n - r - from_) from_

/-- What takes the picks: whatever it holds on to, and what a round does. -/
structure YSpec (Y : YldF) (l : Nat) (A : List (List Nat) → (Nat → Prop) → AHeap → Nat → Prop) (S : List (List Nat) → List Nat → AHeap → Nat → Prop) (V : List Nat → Prop) : Prop where
  keeps : ∀ acc O h nx h' nx', A acc O h nx → nx ≤ nx' → (∀ i, O i → h' i = h i) → A acc O h' nx'
  lt : ∀ acc O h nx, A acc O h nx → ∀ i, O i → i < nx
  stop : ∀ acc q h nx nx', S acc q h nx → nx ≤ nx' → S acc q h nx'
  step : ∀ acc O h nx q a c n0, V q → A acc O h nx → OwnSl h n0 nx a (List.length q) 1 (ints .i64 (nints q)) → (∀ i, O i → i < n0) → q.length ≤ 100 → acc.length ≤ 1000 → n0 ≤ nx →
    (∃ O' h' nx', Y l [.slice a q.length c] h nx = some (.bool true, h', nx') ∧ nx ≤ nx' ∧ A (acc ++ [q]) O' h' nx' ∧ (∀ i, O' i → O i ∨ n0 ≤ i) ∧ ∀ i, i < nx → ¬ O i → i < n0 → h' i = h i) ∨
    ∃ h' nx', Y l [.slice a q.length c] h nx = some (.bool false, h', nx') ∧ S acc q h' nx'

theorem cloneY {f : Nat} (hf : 1 ≤ f) (Y : YldF) {h : AHeap} {nx nxs : Nat} {p : Nat × Nat} {n : Nat} (c : Bool) {vs : List AV} (hs : Sl h nxs (some p) n 1 vs) (hx : nxs ≤ nx) (hn : n ≤ 1000000) :
    ∃ a' c' h' nx', callP Try.prog keepT f Y 21 [.slice (some p) n c] h nx = some (.slice a' n c', h', nx') ∧ Ext h nx h' nx' ∧ OwnSl h' nx nx' a' n 1 vs := by
  obtain ⟨f, rfl⟩ : ∃ m, f = m + 1 := ⟨f - 1, by omega⟩
  have s1 : Sl (h.put (nx + 3) (some ⟨[], 1, true⟩)) (nx + 4) (some p) n 1 vs := hs.ext ⟨by omega, fun i hi => put_ne (by omega)⟩
  obtain ⟨rd, src⟩ := s1.src'
  have o1 : OwnSl (h.put (nx + 3) (some ⟨[], 1, true⟩)) nx (nx + 4) (some (nx + 3, 0)) 0 1 [] := ⟨by simp, .inr ⟨nx + 3, rfl, by omega, by omega, by simp⟩⟩
  obtain ⟨e, f1, f2, f3, f4, _⟩ := o1.appendS (c := true) (bytes := 8) (id := nx + 5) (k := n) (ws := vs) (rd := rd) hs.1 (growOk_of (by omega) (by omega)) (by omega) (by omega)
  rw [F21_eq, if_neg (by simp)]
  dsimp only
  rw [src]
  simp only [mst_]
  rw [f1]
  simp only [mst_]
  rw [f2, Nat.zero_add]
  rw [Nat.zero_add, List.nil_append] at f3
  exact ⟨_, _, _, _, rfl, ⟨by omega, fun i hi => (f4.2 i hi).trans (put_ne (by omega))⟩, f3.le (by omega)⟩

/-- The walk's boxes. -/
structure WB (h : AHeap) (nx p1 kb yb nb wb k n l : Nat) : Prop where
  hk : h kb = some ⟨[.int .i64 (k : Int)], 1, true⟩
  hn : h nb = some ⟨[.int .i64 (n : Int)], 1, true⟩
  hy : h yb = some ⟨[.yld l], 1, true⟩
  hw : h wb = some ⟨[.fn 30 [] [.ptr (some (p1, 0)), .ptr (some (kb, 0)), .ptr (some (yb, 0)), .ptr (some (nb, 0)), .ptr (some (wb, 0))]], 1, true⟩
  lk : kb < nx
  ln : nb < nx
  ly : yb < nx
  lw : wb < nx
  nk : kb ≠ p1
  nn : nb ≠ p1
  ny : yb ≠ p1
  nw : wb ≠ p1
structure PickAt (h : AHeap) (nx p1 kb yb nb wb id : Nat) (c : Bool) (q : List Nat) : Prop where
  hp : h p1 = some ⟨[.slice (some (id, 0)) q.length c], 1, true⟩
  hid : ∃ cs, h id = some ⟨cs, 1, true⟩ ∧ q.length ≤ cs.length ∧ cs.take q.length = ints .i64 (nints q)
  lp : p1 < nx
  li : id < nx
  np : id ≠ p1
  nk : id ≠ kb
  ny : id ≠ yb
  nn : id ≠ nb
  nw : id ≠ wb
/-- None of these is the taker's. -/
structure Off (O : Nat → Prop) (p1 kb yb nb wb id : Nat) : Prop where
  p : ¬ O p1
  k : ¬ O kb
  y : ¬ O yb
  n : ¬ O nb
  w : ¬ O wb
  i : ¬ O id

theorem WB.keep {h h' : AHeap} {nx nx' p1 kb yb nb wb k n l : Nat} (w : WB h nx p1 kb yb nb wb k n l) (hx : nx ≤ nx') (h1 : h' kb = h kb) (h2 : h' nb = h nb) (h3 : h' yb = h yb) (h4 : h' wb = h wb) : WB h' nx' p1 kb yb nb wb k n l :=
  ⟨h1.trans w.hk, h2.trans w.hn, h3.trans w.hy, h4.trans w.hw, by have := w.lk; omega, by have := w.ln; omega, by have := w.ly; omega, by have := w.lw; omega, w.nk, w.nn, w.ny, w.nw⟩

theorem nintsApp (a b : List Nat) : nints (a ++ b) = nints a ++ nints b := by simp [nints]
theorem ints_app (k : IntKind) (a b : List Int) : ints k (a ++ b) = ints k a ++ ints k b := by simp [ints]
theorem nintsLen (q : List Nat) : (ints .i64 (nints q)).length = q.length := by simp [ints, nints]

/-- What a walk does. -/
def WalkOk (Y : YldF) (p1 kb yb nb wb k n l : Nat) (A : List (List Nat) → (Nat → Prop) → AHeap → Nat → Prop) (S : List (List Nat) → List Nat → AHeap → Nat → Prop) (acc : List (List Nat)) (O : Nat → Prop) (id : Nat) (h : AHeap) (nx : Nat) (q : List Nat) (out : List (List Nat)) (res : Option Res) : Prop :=
  (∃ h' nx' pre q1 post, res = some (.bool false, h', nx') ∧ out.map (q ++ ·) = pre ++ q1 :: post ∧ S (acc ++ pre) q1 h' nx') ∨
  ∃ O' id' c' h' nx', res = some (.bool true, h', nx') ∧ nx ≤ nx' ∧ A (acc ++ out.map (q ++ ·)) O' h' nx' ∧ PickAt h' nx' p1 kb yb nb wb id' c' q ∧ Off O' p1 kb yb nb wb id' ∧ (∀ i, O' i → O i ∨ nx ≤ i) ∧ (id' = id ∨ nx ≤ id') ∧
    ∀ i, i < nx → ¬ O i → i ≠ p1 → i ≠ id → h' i = h i

theorem walk_loop {Y : YldF} {l : Nat} {A : List (List Nat) → (Nat → Prop) → AHeap → Nat → Prop} {S : List (List Nat) → List Nat → AHeap → Nat → Prop} {V : List Nat → Prop} {p1 kb yb nb wb k n : Nat} (hk : k ≤ 12) (hn : n ≤ 12) (f r : Nat)
    (ih : ∀ (q : List Nat) (fr : Nat) (acc : List (List Nat)) (O : Nat → Prop) (id : Nat) (c : Bool) (h : AHeap) (nx : Nat), q.length + r = k → fr ≤ n → (∀ y ∈ picks n r fr, V (q ++ y)) → acc.length + (picks n r fr).length ≤ 1000 → WB h nx p1 kb yb nb wb k n l → PickAt h nx p1 kb yb nb wb id c q → Off O p1 kb yb nb wb id → A acc O h nx →
      WalkOk Y p1 kb yb nb wb k n l A S acc O id h nx q (picks n r fr) (callP Try.prog keepT f Y 30 [.int .i64 (fr : Int), .ptr (some (p1, 0)), .ptr (some (kb, 0)), .ptr (some (yb, 0)), .ptr (some (nb, 0)), .ptr (some (wb, 0))] h nx))
    (hA : YSpec Y l A S V) (q : List Nat) (hq : q.length + (r + 1) = k) :
    ∀ (d x lf' : Nat) (acc : List (List Nat)) (O : Nat → Prop) (id : Nat) (c : Bool) (h : AHeap) (nx : Nat), x + d = n - r ∨ (d = 0 ∧ n - r ≤ x ∧ x ≤ n) → d < lf' → (∀ y ∈ picksL (picks n r) d x, V (q ++ y)) → acc.length + (picksL (picks n r) d x).length ≤ 1000 → WB h nx p1 kb yb nb wb k n l → PickAt h nx p1 kb yb nb wb id c q → Off O p1 kb yb nb wb id → A acc O h nx →
      WalkOk Y p1 kb yb nb wb k n l A S acc O id h nx q (picksL (picks n r) d x) (F30_L1 (callP Try.prog keepT f) Y f lf' (some (p1, 0)) (some (kb, 0)) (some (nb, 0)) (some (wb, 0)) (x : Int) h nx) := by
  intro d
  induction d with
  | zero =>
    intro x lf' acc O id c h nx hx hlf hV hacc w p o a
    obtain ⟨m, rfl⟩ : ∃ m, lf' = m + 1 := ⟨lf' - 1, by omega⟩
    rw [F30_L1_eq]
    dsimp only [Option.bind_some]
    rw [ld_at w.hn (v := .int .i64 (n : Int)) rfl]
    simp only [mst_]
    rw [ld_at w.hk (v := .int .i64 (k : Int)) rfl]
    simp only [mst_]
    rw [ld_at p.hp (v := .slice (some (id, 0)) q.length c) rfl]
    simp only [mst_]
    rw [wA (x := (k : Int) - ((q.length : Nat) : Int)) (by omega) (by omega), wA (by omega) (by omega), if_neg (by simp; omega)]
    right
    refine ⟨O, id, c, h, nx + 9, rfl, by omega, ?_, ⟨p.hp, p.hid, by have := p.lp; omega, by have := p.li; omega, p.np, p.nk, p.ny, p.nn, p.nw⟩, o, fun i hi => .inl hi, .inl rfl, fun _ _ _ _ _ => rfl⟩
    simp only [picksL, List.map_nil, List.append_nil]
    exact hA.keeps _ _ _ _ _ _ a (by omega) (fun _ _ => rfl)
  | succ d ihd =>
    intro x lf' acc O id c h nx hx hlf hV hacc w p o a
    have hx' : x + (d + 1) = n - r := by rcases hx with hx | hx; exact hx; omega
    obtain ⟨m, rfl⟩ : ∃ m, lf' = m + 1 := ⟨lf' - 1, by omega⟩
    rw [F30_L1_eq]
    dsimp only [Option.bind_some]
    rw [ld_at w.hn (v := .int .i64 (n : Int)) rfl]
    simp only [mst_]
    rw [ld_at w.hk (v := .int .i64 (k : Int)) rfl]
    simp only [mst_]
    rw [ld_at p.hp (v := .slice (some (id, 0)) q.length c) rfl]
    simp only [mst_]
    rw [wA (x := (k : Int) - ((q.length : Nat) : Int)) (by omega) (by omega), wA (by omega) (by omega), if_pos (by simp; omega)]
    rw [ld_at p.hp (v := .slice (some (id, 0)) q.length c) rfl]
    simp only [mst_]
    rw [src_lit1]
    simp only [mst_]
    obtain ⟨cs, hc1, hc2, hc3⟩ := p.hid
    have li := p.li; have lp := p.lp; have lk := w.lk; have ln := w.ln; have ly := w.ly; have lw := w.lw
    have hc1' : (h.put (nx + 10) (some ⟨[.int .i64 (x : Int)], 1, true⟩)) id = some ⟨cs, 1, true⟩ := (put_ne (by omega)).trans hc1
    have hlen := nintsLen q
    obtain ⟨st, rd', e1, e2, e3⟩ := push_at (q := ints .i64 (nints q)) (j := nx + 11) c (v := .int .i64 (x : Int)) (bytes := 8) [nx + 10] hc1' (by rw [hlen]; exact hc2) (by rw [hlen]; exact hc3) (by rw [hlen]; exact growOk_of (by omega) (by omega)) (by omega)
    rw [hlen] at e1
    rw [e1]
    simp only [mst_]
    have hp1 : ((h.put (nx + 10) (some ⟨[.int .i64 (x : Int)], 1, true⟩)).puts st) p1 = some ⟨[.slice (some (id, 0)) q.length c], 1, true⟩ := (e3 p1 (by omega) (fun e => p.np e.symm)).trans ((put_ne (by omega)).trans p.hp)
    rw [st_at hp1 (n := 1) (v := .slice (some (nx + 11, 0)) (q.length + 1) false) rfl (by simp [AV.cells]) rfl]
    generalize hh1 : AHeap.put (AHeap.puts (h.put (nx + 10) (some ⟨[.int .i64 (x : Int)], 1, true⟩)) st) p1 _ = h1
    have hh1i : ∀ i, i < nx → i ≠ p1 → i ≠ id → h1 i = h i := by
      intro i hi h1' h2'
      rw [← hh1, put_ne h1', e3 i (by omega) h2', put_ne (by omega)]
    have hh1p : h1 p1 = some ⟨[.slice (some (nx + 11, 0)) (q.length + 1) false], 1, true⟩ := by
      rw [← hh1, put_same]; simp [splice, AV.cells]
    have hh1j : h1 (nx + 11) = some ⟨ints .i64 (nints q) ++ [.int .i64 (x : Int)], 1, true⟩ := by
      rw [← hh1, put_ne (by omega), e2]
    have w1 : WB h1 (nx + 18) p1 kb yb nb wb k n l := w.keep (by omega) (hh1i _ lk w.nk (fun e => p.nk e.symm)) (hh1i _ ln w.nn (fun e => p.nn e.symm)) (hh1i _ ly w.ny (fun e => p.ny e.symm)) (hh1i _ lw w.nw (fun e => p.nw e.symm))
    rw [ld_at w1.hw (v := .fn 30 [] _) rfl]
    rw [asCal_fn]
    simp only [mst_]
    rw [callC_fn, nil_app, wA (x := (x : Int) + 1) (by omega) (by omega)]
    have hxi : (x : Int) + 1 = ((x + 1 : Nat) : Int) := by omega
    rw [hxi]
    have pk1 : PickAt h1 (nx + 18) p1 kb yb nb wb (nx + 11) false (q ++ [x]) :=
      ⟨by rw [hh1p]; simp, ⟨_, hh1j, by simp [ints, nints], by
        rw [nintsApp, ints_app, List.take_of_length_le (by simp [ints, nints])]; rfl⟩, by omega, by omega, by omega, by omega, by omega, by omega, by omega⟩
    have hO := hA.lt _ _ _ _ a
    have o1 : Off O p1 kb yb nb wb (nx + 11) := ⟨o.p, o.k, o.y, o.n, o.w, fun e => by have := hO _ e; omega⟩
    have a1 : A acc O h1 (nx + 18) := hA.keeps _ _ _ _ _ _ a (by omega) (fun i hi => hh1i i (hO i hi) (fun e => o.p (e ▸ hi)) (fun e => o.i (e ▸ hi)))
    have hout : picksL (picks n r) (d + 1) x = (picks n r (x + 1)).map (x :: ·) ++ picksL (picks n r) d (x + 1) := rfl
    have hacc' : acc.length + ((picks n r (x + 1)).length + (picksL (picks n r) d (x + 1)).length) ≤ 1000 := by
      rw [hout, List.length_append, List.length_map] at hacc; exact hacc
    have hV1 : ∀ y ∈ picks n r (x + 1), V (q ++ [x] ++ y) := fun y hy => by
      have := hV (x :: y) (by rw [hout]; exact List.mem_append_left _ (List.mem_map.2 ⟨y, hy, rfl⟩))
      rwa [List.append_assoc, List.singleton_append]
    have hV2 : ∀ y ∈ picksL (picks n r) d (x + 1), V (q ++ y) := fun y hy => hV y (by rw [hout]; exact List.mem_append_right _ hy)
    have hmm : (picksL (picks n r) (d + 1) x).map (q ++ ·) = (picks n r (x + 1)).map (q ++ [x] ++ ·) ++ (picksL (picks n r) d (x + 1)).map (q ++ ·) := by
      rw [hout, List.map_append, List.map_map]
      have : (fun y => q ++ y) ∘ (fun y => x :: y) = fun y => q ++ [x] ++ y := by funext y; simp
      rw [this]
    simp only [List.nil_append, List.singleton_append]
    rcases ih (q ++ [x]) (x + 1) acc O (nx + 11) false h1 (nx + 18) (by simp; omega) (by omega) hV1 (by omega) w1 pk1 o1 a1 with ⟨h2, n2, pre, q1, post, g1, g2, g3⟩ | ⟨O2, id2, c2, h2, n2, g1, g2, g3, g4, g5, g6, g7, g8⟩
    · rw [g1]
      simp only [mst_]
      exact .inl ⟨h2, n2 + 1, pre, q1, post ++ (picksL (picks n r) d (x + 1)).map (q ++ ·), rfl, by rw [hmm, g2]; simp, hA.stop _ _ _ _ _ g3 (by omega)⟩
    rw [g1]
    simp only [mst_]
    rw [ld_at g4.hp (v := .slice (some (id2, 0)) (q ++ [x]).length c2) rfl]
    simp only [mst_]
    rw [ld_at g4.hp (v := .slice (some (id2, 0)) (q ++ [x]).length c2) rfl]
    simp only [mst_]
    obtain ⟨cs2, hd1, hd2, hd3⟩ := g4.hid
    have s2 : Sl h2 n2 (some (id2, 0)) (q ++ [x]).length 1 (ints .i64 (nints (q ++ [x]))) := ⟨by simp [ints, nints], fun j hj => ⟨(id2, 0), _, rfl, g4.li, hd1, rfl, by simp at hd2 ⊢; omega, fun u hu => by
      rw [Nat.zero_add, ← hd3, List.getElem?_take, if_pos (by omega)]⟩⟩
    have hlx : (q ++ [x]).length = q.length + 1 := by simp
    have hw1 : wrapA .i64 (((q ++ [x]).length : Nat) - 1) = ((q.length : Nat) : Int) := by rw [wA (by omega) (by omega)]; omega
    obtain ⟨ct1, ct2, _⟩ := s2.cut c2 (lo := 0) (hi := q.length) (by omega) (by omega) (l := none) (r := some (.int .i64 (q.length : Int))) rfl (bound_some (by omega))
    rw [hw1, ct1]
    simp only [mst_]
    have hsh : shiftAddr (some (id2, 0)) (0 * 1) = some (id2, 0) := rfl
    rw [hsh]
    rw [st_at g4.hp (n := 1) (v := .slice (some (id2, 0)) (q.length - 0) (c2 && q.length == (q ++ [x]).length)) rfl (by simp [AV.cells]) rfl]
    generalize hh3 : AHeap.put h2 p1 _ = h3
    have hh3i : ∀ i, i ≠ p1 → h3 i = h2 i := fun i hi => by rw [← hh3, put_ne hi]
    have hh3p : h3 p1 = some ⟨[.slice (some (id2, 0)) q.length (c2 && q.length == (q ++ [x]).length)], 1, true⟩ := by rw [← hh3, put_same]; simp [splice, AV.cells]
    have pk3 : PickAt h3 (n2 + 9) p1 kb yb nb wb id2 (c2 && q.length == (q ++ [x]).length) q :=
      ⟨hh3p, ⟨cs2, (hh3i _ g4.np).trans hd1, by omega, by
        have := congrArg (List.take q.length) hd3
        rw [List.take_take, Nat.min_eq_left (by omega)] at this
        rw [this, nintsApp, ints_app, List.take_left' (nintsLen q)]⟩, by omega, by have := g4.li; omega, g4.np, g4.nk, g4.ny, g4.nn, g4.nw⟩
    have hfr : ∀ i, i < nx → ¬ O i → i ≠ p1 → i ≠ id → h2 i = h i := fun i hi h1' h2' h3' => (g8 i (by omega) h1' h2' (by omega)).trans (hh1i i hi h2' h3')
    have w3 : WB h3 (n2 + 9) p1 kb yb nb wb k n l := w.keep (by omega) ((hh3i _ w.nk).trans (hfr _ lk o.k w.nk (fun e => p.nk e.symm))) ((hh3i _ w.nn).trans (hfr _ ln o.n w.nn (fun e => p.nn e.symm))) ((hh3i _ w.ny).trans (hfr _ ly o.y w.ny (fun e => p.ny e.symm))) ((hh3i _ w.nw).trans (hfr _ lw o.w w.nw (fun e => p.nw e.symm)))
    have a3 : A (acc ++ (picks n r (x + 1)).map (q ++ [x] ++ ·)) O2 h3 (n2 + 9) := hA.keeps _ _ _ _ _ _ g3 (by omega) (fun i hi => hh3i i (fun e => g5.p (e ▸ hi)))
    rcases ihd (x + 1) m _ O2 id2 _ h3 (n2 + 9) (by omega) (by omega) hV2 (by rw [List.length_append, List.length_map]; omega) w3 pk3 g5 a3 with ⟨h4, n4, pre, q1, post, k1, k2, k3⟩ | ⟨O4, id4, c4, h4, n4, k1, k2, k3, k4, k5, k6, k7, k8⟩
    · exact .inl ⟨h4, n4, (picks n r (x + 1)).map (q ++ [x] ++ ·) ++ pre, q1, post, k1, by rw [hmm, k2]; simp, by rw [← List.append_assoc]; exact k3⟩
    right
    refine ⟨O4, id4, c4, h4, n4, k1, by omega, ?_, k4, k5, fun i hi => ?_, ?_, fun i hi h1' h2' h3' => ?_⟩
    · rw [hout, List.map_append, ← List.append_assoc, List.map_map]
      have : (fun y => q ++ y) ∘ (fun y => x :: y) = fun y => q ++ [x] ++ y := by funext y; simp
      rw [this]; exact k3
    · rcases k6 i hi with hi | hi
      · rcases g6 i hi with hi | hi
        · exact .inl hi
        · exact .inr (by omega)
      · exact .inr (by omega)
    · rcases k7 with rfl | e
      · rcases g7 with rfl | e
        · exact .inr (by omega)
        · exact .inr (by omega)
      · exact .inr (by omega)
    · rw [k8 i (by omega) (fun e => by rcases g6 i e with e | e; exact h1' e; omega) h2' (by rcases g7 with rfl | e <;> omega), hh3i i h2', hfr i hi h1' h2' h3']

theorem walk_spec {Y : YldF} {l : Nat} {A : List (List Nat) → (Nat → Prop) → AHeap → Nat → Prop} {S : List (List Nat) → List Nat → AHeap → Nat → Prop} {V : List Nat → Prop} {p1 kb yb nb wb k n : Nat} (hk : k ≤ 12) (hn : n ≤ 12) (hA : YSpec Y l A S V) :
    ∀ (r f : Nat) (q : List Nat) (fr : Nat) (acc : List (List Nat)) (O : Nat → Prop) (id : Nat) (c : Bool) (h : AHeap) (nx : Nat), r + 16 ≤ f → q.length + r = k → fr ≤ n → (∀ y ∈ picks n r fr, V (q ++ y)) → acc.length + (picks n r fr).length ≤ 1000 → WB h nx p1 kb yb nb wb k n l → PickAt h nx p1 kb yb nb wb id c q → Off O p1 kb yb nb wb id → A acc O h nx →
      WalkOk Y p1 kb yb nb wb k n l A S acc O id h nx q (picks n r fr) (callP Try.prog keepT f Y 30 [.int .i64 (fr : Int), .ptr (some (p1, 0)), .ptr (some (kb, 0)), .ptr (some (yb, 0)), .ptr (some (nb, 0)), .ptr (some (wb, 0))] h nx) := by
  intro r
  induction r with
  | zero =>
    intro f q fr acc O id c h nx hf hq hfr hV hacc w p o a
    obtain ⟨f, rfl⟩ : ∃ m, f = m + 1 := ⟨f - 1, by omega⟩
    rw [F30_eq]
    dsimp only [Option.bind_some]
    rw [ld_at p.hp (v := .slice (some (id, 0)) q.length c) rfl]
    simp only [mst_]
    rw [ld_at w.hk (v := .int .i64 (k : Int)) rfl]
    simp only [mst_]
    rw [if_pos (by simp; omega), ld_at w.hy (v := .yld l) rfl, ld_at p.hp (v := .slice (some (id, 0)) q.length c) rfl]
    simp only [mst_]
    obtain ⟨cs, hc1, hc2, hc3⟩ := p.hid
    have li := p.li; have lp := p.lp
    have s1 : Sl h nx (some (id, 0)) q.length 1 (ints .i64 (nints q)) := ⟨by simp [ints, nints], fun j hj => ⟨(id, 0), _, rfl, li, hc1, rfl, by simp; omega, fun u hu => by
      rw [Nat.zero_add, ← hc3, List.getElem?_take, if_pos (by omega)]⟩⟩
    obtain ⟨a', c', h', n', e1, e2, e3⟩ := cloneY (f := f) (by omega) Y c s1 (nx := nx + 10) (by omega) (by omega)
    rw [e1]
    simp only [mst_]
    rw [asCal_yld]
    simp only [mst_]
    rw [callC_yld]
    have hO := hA.lt _ _ _ _ a
    have a1 : A acc O h' n' := hA.keeps _ _ _ _ _ _ a (by have := e2.1; omega) (fun i hi => e2.2 i (by have := hO i hi; omega))
    simp only [picks, List.length_singleton] at hacc
    have hVq : V q := by
      have := hV [] (by simp [picks])
      rwa [List.append_nil] at this
    simp only [List.nil_append, List.append_nil]
    rcases hA.step acc O h' n' q a' c' (nx + 10) hVq a1 e3 (fun i hi => by have := hO i hi; omega) (by omega) (by omega) (by have := e2.1; omega) with ⟨O2, h2, n2, g1, g2, g3, g4, g5⟩ | ⟨h2, n2, g1, g2⟩
    rotate_left
    · rw [g1]
      simp only [mst_]
      rw [ifKept_pos (by
        refine ⟨fun i hi => ?_, trivial⟩
        simp only [List.mem_singleton] at hi; subst hi
        exact e2.2 _ (by have := w.ly; omega))]
      exact .inl ⟨h2, n2, [], q, [], rfl, by simp [picks], by rw [List.append_nil]; exact g2⟩
    right
    rw [g1]
    simp only [mst_]
    rw [ifKept_pos (by
      refine ⟨fun i hi => ?_, trivial⟩
      simp only [List.mem_singleton] at hi; subst hi
      exact e2.2 _ (by have := w.ly; omega))]
    have hn' := e2.1
    have hf2 : ∀ i, i < nx → ¬ O i → h2 i = h i := fun i hi h1 => (g5 i (by omega) h1 (by omega)).trans (e2.2 i (by omega))
    refine ⟨O2, id, c, h2, n2, rfl, by omega, by simpa [picks] using g3, ⟨(hf2 _ lp o.p).trans p.hp, ⟨cs, (hf2 _ li o.i).trans hc1, hc2, hc3⟩, by omega, by omega, p.np, p.nk, p.ny, p.nn, p.nw⟩, ?_, fun i hi => by rcases g4 i hi with e | e; exact .inl e; exact .inr (by omega), .inl rfl, fun i hi h1 _ _ => hf2 i hi h1⟩
    have off : ∀ i, i < nx → ¬ O i → ¬ O2 i := fun i hi h1 e => by rcases g4 i e with e | e; exact h1 e; omega
    exact ⟨off _ lp o.p, off _ w.lk o.k, off _ w.ly o.y, off _ w.ln o.n, off _ w.lw o.w, off _ li o.i⟩
  | succ r ihr =>
    intro f q fr acc O id c h nx hf hq hfr hV hacc w p o a
    obtain ⟨f, rfl⟩ : ∃ m, f = m + 1 := ⟨f - 1, by omega⟩
    rw [F30_eq]
    dsimp only [Option.bind_some]
    rw [ld_at p.hp (v := .slice (some (id, 0)) q.length c) rfl]
    simp only [mst_]
    rw [ld_at w.hk (v := .int .i64 (k : Int)) rfl]
    simp only [mst_]
    rw [if_neg (by simp; omega)]
    have lp := p.lp; have li := p.li
    rcases walk_loop hk hn f r (fun q fr acc O id c h nx h1 h2 hv h3 w p o a => ihr f q fr acc O id c h nx (by omega) h1 h2 hv h3 w p o a) hA q hq (n - r - fr) fr f acc O id c h (nx + 7)
      (by omega) (by omega) hV hacc (w.keep (by omega) rfl rfl rfl rfl) ⟨p.hp, p.hid, by omega, by omega, p.np, p.nk, p.ny, p.nn, p.nw⟩ o (hA.keeps _ _ _ _ _ _ a (by omega) (fun _ _ => rfl)) with z | ⟨O', id', c', h', nx', g1, g2, g3⟩
    · exact .inl z
    right
    obtain ⟨g3, g4, g5, g6, g7, g8⟩ := g3
    exact ⟨O', id', c', h', nx', g1, by omega, g3, g4, g5, fun i hi => by rcases g6 i hi with e | e; exact .inl e; exact .inr (by omega), by rcases g7 with e | e; exact .inl e; exact .inr (by omega), fun i hi h1 h2 h3 => g8 i (by omega) h1 h2 h3⟩

theorem each_spec {f k n l N kb nb : Nat} {Y : YldF} {A : List (List Nat) → (Nat → Prop) → AHeap → Nat → Prop} {S : List (List Nat) → List Nat → AHeap → Nat → Prop} {V : List Nat → Prop} (hA : YSpec Y l A S V) (hf : k + 18 ≤ f) (hk : k ≤ 12) (hn : n ≤ 12) {O : Nat → Prop} {h : AHeap}
    (a : A [] O h N) (hkb : h kb = some ⟨[.int .i64 (k : Int)], 1, true⟩) (hnb : h nb = some ⟨[.int .i64 (n : Int)], 1, true⟩) (lk : kb < N) (ln : nb < N) (ok : ¬ O kb) (on : ¬ O nb) (hp : (picks n k 0).length ≤ 1000) (hV : ∀ y ∈ picks n k 0, V y) :
    (∃ h' nx' pre q1 post, callP Try.prog keepT f Y 29 [.yld l, .ptr (some (kb, 0)), .ptr (some (nb, 0))] h N = some (.tuple [], h', nx') ∧ picks n k 0 = pre ++ q1 :: post ∧ S pre q1 h' nx') ∨
    ∃ O' h' nx', callP Try.prog keepT f Y 29 [.yld l, .ptr (some (kb, 0)), .ptr (some (nb, 0))] h N = some (.tuple [], h', nx') ∧ N ≤ nx' ∧ A (picks n k 0) O' h' nx' ∧ (∀ i, O' i → O i ∨ N ≤ i) ∧ ∀ i, i < N → ¬ O i → h' i = h i := by
  obtain ⟨f, rfl⟩ : ∃ m, f = m + 1 := ⟨f - 1, by omega⟩
  rw [F29_eq, if_pos (by simp [AV.cells, allOne, AV.one])]
  dsimp only [Option.bind_some]
  have hO := hA.lt _ _ _ _ a
  have hc : AV.cells (.yld l) = [.yld l] := rfl
  rw [hc]
  rw [ld_at ((put_ne (by omega)).trans hkb) (v := .int .i64 (k : Int)) rfl]
  simp only [mst_]
  rw [if_pos (by simp; omega)]
  have hm : madeA [AV.int .i64 0] (Int.toNat 0 * 1) = [] := by simp [madeA]
  rw [hm]
  generalize hh1 : AHeap.put (AHeap.put h N (some ⟨[.yld l], 1, true⟩)) (N + 2) (some ⟨[], 1, true⟩) = h1
  rw [st_at (put_same h1 (N + 3) _) (n := 1) (v := .slice (some (N + 2, 0)) (Int.toNat 0) (0 == (k : Int))) rfl (by simp [AV.cells]) rfl, put_put]
  rw [st_at (put_same _ (N + 5) _) (n := 1) (v := .fn 30 [] [.ptr (some (N + 3, 0)), .ptr (some (kb, 0)), .ptr (some (N, 0)), .ptr (some (nb, 0)), .ptr (some (N + 5, 0))]) rfl (by simp [AV.cells]) rfl, put_put]
  generalize hh2 : AHeap.put (AHeap.put h1 (N + 3) _) (N + 5) _ = h2
  have hi : ∀ i, i < N → h2 i = h i := fun i hi => by rw [← hh2, put_ne (by omega), put_ne (by omega), ← hh1, put_ne (by omega), put_ne (by omega)]
  have e5 : h2 (N + 5) = some ⟨[.fn 30 [] [.ptr (some (N + 3, 0)), .ptr (some (kb, 0)), .ptr (some (N, 0)), .ptr (some (nb, 0)), .ptr (some (N + 5, 0))]], 1, true⟩ := by rw [← hh2, put_same]; simp [splice, AV.cells]
  have e3 : h2 (N + 3) = some ⟨[.slice (some (N + 2, 0)) ([] : List Nat).length (0 == (k : Int))], 1, true⟩ := by rw [← hh2, put_ne (by omega), put_same]; simp [splice, AV.cells]
  have e2 : h2 (N + 2) = some ⟨[], 1, true⟩ := by rw [← hh2, put_ne (by omega), put_ne (by omega), ← hh1, put_same]
  have e0 : h2 N = some ⟨[.yld l], 1, true⟩ := by rw [← hh2, put_ne (by omega), put_ne (by omega), ← hh1, put_ne (by omega), put_same]
  rw [ld_at e5 (v := .fn 30 [] _) rfl, asCal_fn]
  simp only [mst_]
  rw [callC_fn, nil_app]
  have oN : ∀ i, N ≤ i → ¬ O i := fun i hi e => by have := hO i e; omega
  have wk := walk_spec (p1 := N + 3) (kb := kb) (yb := N) (nb := nb) (wb := N + 5) (k := k) (n := n) hk hn hA k f [] 0 [] O (N + 2) (0 == (k : Int)) h2 (N + 10) (by omega) (by simp) (by omega) (fun y hy => by rw [List.nil_append]; exact hV y hy) (by simpa using hp)
    ⟨(hi _ lk).trans hkb, (hi _ ln).trans hnb, e0, e5, by omega, by omega, by omega, by omega, by omega, by omega, by omega, by omega⟩
    ⟨e3, ⟨[], e2, by simp, rfl⟩, by omega, by omega, by omega, by omega, by omega, by omega, by omega⟩
    ⟨oN _ (by omega), ok, oN _ (by omega), on, oN _ (by omega), oN _ (by omega)⟩
    (hA.keeps _ _ _ _ _ _ a (by omega) (fun i hio => hi i (hO i hio)))
  simp only [List.singleton_append]
  rcases wk with ⟨h', nx', pre, q1, post, g1, g2, g3⟩ | ⟨O', id', c', h', nx', g1, g2, g3, g4, g5, g6, g7, g8⟩
  · rw [show ((0 : Nat) : Int) = 0 from rfl] at g1
    rw [g1]
    simp only [mst_]
    exact .inl ⟨h', nx', pre, q1, post, rfl, by simpa using g2, by simpa using g3⟩
  right
  rw [show ((0 : Nat) : Int) = 0 from rfl] at g1
  rw [g1]
  simp only [mst_]
  refine ⟨O', h', nx', rfl, by omega, by simpa using g3, fun i hi' => by rcases g6 i hi' with e | e; exact .inl e; exact .inr (by omega), fun i hi1 hi2 => (g8 i (by omega) hi2 (by omega) (by omega)).trans (hi i hi1)⟩


end Go.Proofs.Ytalfcokiooaliaa.T

namespace Go.Proofs.Ytalfcokiooaliaa.T
open Go Go.RowKit Go.Proofs

/-! ### what is a pick -/
theorem picksL_mem {f : Nat → List (List Nat)} : ∀ {d x : Nat} {q : List Nat}, q ∈ picksL f d x ↔ ∃ y r, q = y :: r ∧ x ≤ y ∧ y < x + d ∧ r ∈ f (y + 1)
  | 0, x, q => by
    simp only [picksL, List.not_mem_nil, false_iff]
    rintro ⟨y, r, _, h1, h2, _⟩; omega
  | d + 1, x, q => by
    simp only [picksL, List.mem_append, List.mem_map, picksL_mem (d := d)]
    constructor
    · rintro (⟨r, hr, rfl⟩ | ⟨y, r, e, h1, h2, h3⟩)
      · exact ⟨x, r, rfl, Nat.le_refl _, by omega, hr⟩
      · exact ⟨y, r, e, by omega, by omega, h3⟩
    · rintro ⟨y, r, e, h1, h2, h3⟩
      by_cases hy : y = x
      · subst hy; exact .inl ⟨r, h3, e.symm⟩
      · exact .inr ⟨y, r, e, by omega, by omega, h3⟩
theorem picks_mem {n : Nat} : ∀ {r fr : Nat} {q : List Nat}, fr ≤ n → q ∈ picks n r fr → q.length = r ∧ (∀ x ∈ q, fr ≤ x ∧ x < n) ∧ q.Pairwise (· < ·)
  | 0, fr, q, _, h => by
    simp only [picks, List.mem_singleton] at h; subst h
    exact ⟨rfl, fun x hx => (by cases hx), List.Pairwise.nil⟩
  | r + 1, fr, q, hf, h => by
    obtain ⟨y, s, rfl, h1, h2, h3⟩ := picksL_mem.1 h
    obtain ⟨a, b, c⟩ := picks_mem (by omega) h3
    refine ⟨by simp [a], fun x hx => ?_, List.pairwise_cons.2 ⟨fun x hx => by have := (b x hx).1; omega, c⟩⟩
    rcases List.mem_cons.1 hx with rfl | hx
    · exact ⟨h1, by omega⟩
    · have := b x hx; omega
theorem picks_all {n : Nat} : ∀ {r fr : Nat} {q : List Nat}, q.length = r → (∀ x ∈ q, fr ≤ x ∧ x < n) → q.Pairwise (· < ·) → q ∈ picks n r fr
  | 0, fr, q, h, _, _ => by
    have : q = [] := List.length_eq_zero_iff.1 h
    subst this; simp [picks]
  | r + 1, fr, [], h, _, _ => by simp at h
  | r + 1, fr, y :: s, h, hx, hp => by
    have hp := List.pairwise_cons.1 hp
    have hl : s.length = r := by simpa using h
    refine picksL_mem.2 ⟨y, s, rfl, (hx y List.mem_cons_self).1, ?_, picks_all hl (fun x hm => ⟨hp.1 x hm, (hx x (List.mem_cons_of_mem _ hm)).2⟩) hp.2⟩
    have hyn := (hx y List.mem_cons_self).2
    -- r numbers above y, below n
    have room : ∀ (s : List Nat) (y : Nat), s.Pairwise (· < ·) → (∀ x ∈ s, y < x ∧ x < n) → y < n → y + s.length < n := by
      intro s
      induction s with
      | nil => intro y _ _ h; simpa using h
      | cons z s ih =>
        intro y hp hz hy
        have hp := List.pairwise_cons.1 hp
        have h1 := hz z List.mem_cons_self
        have := ih z hp.2 (fun x hm => ⟨hp.1 x hm, (hz x (List.mem_cons_of_mem _ hm)).2⟩) h1.2
        simp only [List.length_cons]; omega
    have := room s y hp.2 (fun x hm => ⟨hp.1 x hm, (hx x (List.mem_cons_of_mem _ hm)).2⟩) hyn
    omega
theorem picks_few {n k : Nat} (hn : n ≤ 8) (hk : k ≤ 3) : (picks n k 0).length ≤ 1000 := by
  have h : ((List.range 9).all fun n => (List.range 4).all fun k => decide ((picks n k 0).length ≤ 1000)) = true := by decide +kernel
  have := List.all_eq_true.1 (List.all_eq_true.1 h n (List.mem_range.2 (by omega))) k (List.mem_range.2 (by omega))
  simpa using this

/-! ### the search -/
def gsQ (d p n : Nat) (lost : Nat → Bool) (q : List Nat) : List Nat := lostL lost (colN d p n) ++ pickK (kept lost (colN d p n)) q
def SumEq (X : List Nat) (s0 s1 s2 s3 : Int) : Prop := sA X = s0 ∧ sB X = s1 ∧ sC X = s2 ∧ sD X = s3
def BadQ (d p n : Nat) (v : Nat → List Nat) (lost : Nat → Bool) (s0 s1 s2 s3 : Int) (q : List Nat) : Prop :=
  ∃ us, UsOk d p n (gsQ d p n lost q) us ∧ ¬ SumEq (tryB d p n v lost (gsQ d p n lost q) us) s0 s1 s2 s3
/-- What the search holds while it goes on. -/
def GA (nb rec : Nat) (hb : AHeap) (Bad : List Nat → Prop) (acc : List (List Nat)) (O : Nat → Prop) (h : AHeap) (nx : Nat) : Prop :=
  (∀ i, O i ↔ i < nb ∨ i = rec) ∧ nb ≤ rec ∧ rec < nx ∧ (∀ j, j < nb → h j = hb j) ∧ h rec = some ⟨[], LB, true⟩ ∧ ∀ x ∈ acc, Bad x
/-- What it holds when it has found something. -/
structure GS (d p n m : Nat) (v : Nat → List Nat) (lost : Nat → Bool) (s0 s1 s2 s3 : Int) (nx0 rec : Nat) (hb : AHeap) (V : List Nat → Prop) (acc : List (List Nat)) (q : List Nat) (h : AHeap) (nx : Nat) (us : List Nat) (da ya : Option (Nat × Nat)) (yc : Bool) : Prop where
  acc : ∀ x ∈ acc, BadQ d p n v lost s0 s1 s2 s3 x
  hv : V q
  hus : UsOk d p n (gsQ d p n lost q) us
  sum : SumEq (tryB d p n v lost (gsQ d p n lost q) us) s0 s1 s2 s3
  r : h rec = some ⟨[], LB + 2, true⟩
  lo : ∀ j, j < nx0 → h j = hb j
  b3 : h (nx0 + 3) = some ⟨[.slice da m true], 1, true⟩
  b4 : h (nx0 + 4) = some ⟨[.slice ya q.length yc], 1, true⟩
  b5 : h (nx0 + 5) = some ⟨[.int .i64 0], 1, true⟩
  sd : Sl h nx da m 1 (ints .u8 (nints ((tryB d p n v lost (gsQ d p n lost q) us).take m)))
  sy : Sl h nx ya q.length 1 (ints .i64 (nints (pickK (kept lost (colN d p n)) q)))
  nd : ∀ pp, da = some pp → pp.1 ≠ rec
  ny : ∀ pp, ya = some pp → 0 < q.length → pp.1 ≠ rec
  nn : nx0 ≤ nx
def GSE (d p n m : Nat) (v : Nat → List Nat) (lost : Nat → Bool) (s0 s1 s2 s3 : Int) (nx0 rec : Nat) (hb : AHeap) (V : List Nat → Prop) (acc : List (List Nat)) (q : List Nat) (h : AHeap) (nx : Nat) : Prop :=
  ∃ us da ya yc, GS d p n m v lost s0 s1 s2 s3 nx0 rec hb V acc q h nx us da ya yc

theorem search_y {k : Nat} (hk : 5800 ≤ k) (lf L0 rec : Nat) (hlf : 200 ≤ lf) {d p a n : Nat} (g : Geo d p n) (hp : 1 ≤ p) (hp3 : p ≤ 3) (hn32 : n ≤ 32) {m : Nat} (hm1 : 1 ≤ m) (hmn : m ≤ n * 128) {v : Nat → List Nat} {lost : Nat → Bool} {P : Nat → Tri} {xa sa la ka : Option (Nat × Nat)} {xc sc lc kc : Bool} {s0 s1 s2 s3 : Int} {lv kv nx0 nb : Nat} {hb : AHeap}
    (S : Scan hb nx0 nb d p a n lost m xa xc [.int .i64 s0, .int .i64 s1, .int .i64 s2, .int .i64 s3] sa sc lv kv la ka lc kc) (sp : Sl hb nb xa (colN d p n) 2 (prows P lost (colN d p n)).flatten) (cl : ColsL hb nb (colN d p n) (bw d p n) v lost P) {V : List Nat → Prop}
    (hV : ∀ q, V q → (∀ x ∈ q, x < (kept lost (colN d p n)).length) ∧ q.Nodup ∧ cnt lost (colN d p n) + q.length ≤ p) :
    YSpec (YX rec (fun a6 h7 c8 => if Nat.beq a6.length 1 = true then ((asSl (a6.getD 0 .bad)).bind fun s9 => F12_R4 (callP Try.prog keepT k) Y0 lf L0 rec (some (nx0, 0)) (some (nx0 + 1, 0)) (some (nx0 + 2, 0)) (some (nx0 + 3, 0)) (some (nx0 + 4, 0)) (some (nx0 + 5, 0)) (some (nx0 + 14, 0)) (some (lv, 0)) (some (kv, 0)) s9.1 s9.2.1 s9.2.2 h7 c8) else none) Y0) rec
      (GA nb rec hb (BadQ d p n v lost s0 s1 s2 s3)) (GSE d p n m v lost s0 s1 s2 s3 nx0 rec hb V) V where
  keeps := fun acc O h nx h' nx' A hle hO => by
    obtain ⟨a1, a2, a3, a4, a5, a6⟩ := A
    exact ⟨a1, a2, by omega, fun j hj => (hO j ((a1 j).2 (.inl hj))).trans (a4 j hj), (hO rec ((a1 rec).2 (.inr rfl))).trans a5, a6⟩
  lt := fun acc O h nx A i hi => by
    obtain ⟨a1, a2, a3, _⟩ := A
    rcases (a1 i).1 hi with z | z <;> omega
  stop := fun acc q h nx nx' G hle => by
    obtain ⟨us, da, ya, yc, G⟩ := G
    exact ⟨us, da, ya, yc, { G with sd := G.sd.ext ⟨hle, fun _ _ => rfl⟩, sy := G.sy.ext ⟨hle, fun _ _ => rfl⟩, nn := by have := G.nn; omega }⟩
  step := fun acc O h nx q ya yc n0 hVq A o hO hq100 hacc hn0 => by
    obtain ⟨a1, a2, a3, a4, a5, a6⟩ := A
    obtain ⟨v1, v2, v3⟩ := hV q hVq
    have lv1 := S.lv1
    have lv0 := S.lv0
    have hnb : nb ≤ n0 := by have := hO (nb - 1) ((a1 _).2 (.inl (by omega))); omega
    have hrn : rec < n0 := hO rec ((a1 _).2 (.inr rfl))
    have x1 : Ext hb nb h nb := ⟨Nat.le_refl _, a4⟩
    have hya : ∀ j o, ya = some (j, o) → q.length = 0 ∨ (n0 ≤ j ∧ j ≠ rec) := fun j o' hj => by
      rcases o.2 with ⟨z, _⟩ | ⟨i, z, z1, _⟩
      · rw [z] at hj; cases hj
      · rw [z] at hj
        have := congrArg Prod.fst (Option.some.inj hj)
        simp only at this
        exact .inr ⟨by omega, by omega⟩
    obtain ⟨us, hus, htry⟩ := try_spec hk lf L0 rec hlf g hp hp3 hn32 hm1 hmn (v := v) yc (S.keep a4) (sp.ext x1) (cl.ext x1) (nx := nx) (by omega) (q := q) (ql := q.length) rfl v1 v2 v3 a2 a3 a5 (ya := ya) (by
      rcases o.2 with ⟨_, z⟩ | ⟨i, z, z1, z2, z3⟩
      · exact .inl z
      · exact .inr ⟨i, z, by omega, z2, by omega, z3⟩) (fun j o' hj => (hya j o' hj).imp id fun z => ⟨by omega, z.2⟩)
    have hY : ∀ r, F12_R4 (callP Try.prog keepT k) Y0 lf L0 rec (some (nx0, 0)) (some (nx0 + 1, 0)) (some (nx0 + 2, 0)) (some (nx0 + 3, 0)) (some (nx0 + 4, 0)) (some (nx0 + 5, 0)) (some (nx0 + 14, 0)) (some (lv, 0)) (some (kv, 0)) ya q.length yc h nx = r → YX rec (fun a6 h7 c8 => if Nat.beq a6.length 1 = true then ((asSl (a6.getD 0 .bad)).bind fun s9 => F12_R4 (callP Try.prog keepT k) Y0 lf L0 rec (some (nx0, 0)) (some (nx0 + 1, 0)) (some (nx0 + 2, 0)) (some (nx0 + 3, 0)) (some (nx0 + 4, 0)) (some (nx0 + 5, 0)) (some (nx0 + 14, 0)) (some (lv, 0)) (some (kv, 0)) s9.1 s9.2.1 s9.2.2 h7 c8) else none) Y0 rec [.slice ya q.length yc] h nx = r := fun r hr => by
      unfold YX
      rw [if_pos rfl]
      simp only [List.length_singleton]
      rw [if_pos (by rfl)]
      simp only [mst_]
      exact hr
    rcases htry with ⟨hs, da, h3, n3, e3, l3, r3, k3, b33, b34, b35, s3', s4', dl⟩ | ⟨hs, h3, n3, e3, l3, r3, k3⟩
    · right
      refine ⟨h3, n3, hY _ e3, us, da, ya, yc, ⟨a6, hVq, hus, hs, r3, fun j hj => by rw [k3 j hj, a4 j (by omega)], b33, b34, b35, s3', s4', fun pp hpp => by have := dl pp hpp; omega, fun pp hpp h0 => ?_, by omega⟩⟩
      rcases hya pp.1 pp.2 (by rw [hpp]) with z | z
      · omega
      · exact z.2
    · left
      have hk3 : ∀ j, j < nb → h3 j = h j := fun j hj => k3 j (by omega) (by omega) (fun o' ho => by
        rcases hya j o' ho with z | z
        · exact z
        · omega)
      refine ⟨O, h3, n3, hY _ e3, l3, ⟨a1, a2, by omega, fun j hj => (hk3 j hj).trans (a4 j hj), r3, fun x hx => ?_⟩, fun i hi => .inl hi, fun i hi hni hin => k3 i hi (fun z => hni ((a1 i).2 (.inr z))) (fun o' ho => ?_)⟩
      · rcases List.mem_append.1 hx with z | z
        · exact a6 x z
        · simp only [List.mem_singleton] at z; subst z; exact ⟨us, hus, hs⟩
      · rcases hya i o' ho with z | z
        · exact z
        · omega

end Go.Proofs.Ytalfcokiooaliaa.T

namespace Go.Proofs.Ytalfcokiooaliaa.T
open Go Go.RowKit Go.Proofs

theorem search_loop {k : Nat} (hk : 5900 ≤ k) {d p a n : Nat} (g : Geo d p n) (hp : 1 ≤ p) (hp3 : p ≤ 3) (hn32 : n ≤ 32) {m : Nat} (hm1 : 1 ≤ m) (hmn : m ≤ n * 128) {v : Nat → List Nat} {lost : Nat → Bool} {P : Nat → Tri} {xa sa la ka : Option (Nat × Nat)} {xc sc lc kc : Bool} {s0 s1 s2 s3 : Int} {lv kv nx0 nb : Nat} {hb : AHeap}
    (S : Scan hb nx0 nb d p a n lost m xa xc [.int .i64 s0, .int .i64 s1, .int .i64 s2, .int .i64 s3] sa sc lv kv la ka lc kc) (sp : Sl hb nb xa (colN d p n) 2 (prows P lost (colN d p n)).flatten) (cl : ColsL hb nb (colN d p n) (bw d p n) v lost P)
    {qs : List Nat} (hqs : qs ∈ picks (kept lost (colN d p n)).length qs.length 0) (htq : cnt lost (colN d p n) + qs.length ≤ p) (good : ∀ us, UsOk d p n (gsQ d p n lost qs) us → SumEq (tryB d p n v lost (gsQ d p n lost qs) us) s0 s1 s2 s3) (mm : Nat) :
    ∀ (f i : Nat) (h : AHeap) (nx : Nat), i + mm = qs.length → mm < f → nb ≤ nx → (∀ j, j < nb → h j = hb j) →
    ∃ q us da ya yc h' nx', F12_L2 (callP Try.prog keepT (k + 1)) Y0 (k + 1) f (p : Int) (some (nx0, 0)) (some (nx0 + 1, 0)) (some (nx0 + 2, 0)) (some (nx0 + 3, 0)) (some (nx0 + 4, 0)) (some (nx0 + 5, 0)) (some (nx0 + 14, 0)) (some (lv, 0)) (some (kv, 0)) (i : Int) h nx = some (.tuple [.slice da m true, .slice ya q.length yc, .int .i64 0], h', nx') ∧ nx0 ≤ nx' ∧ (∀ j, j < nx0 → h' j = hb j) ∧
      UsOk d p n (gsQ d p n lost q) us ∧ SumEq (tryB d p n v lost (gsQ d p n lost q) us) s0 s1 s2 s3 ∧ Sl h' nx' da m 1 (ints .u8 (nints ((tryB d p n v lost (gsQ d p n lost q) us).take m))) ∧ Sl h' nx' ya q.length 1 (ints .i64 (nints (pickK (kept lost (colN d p n)) q))) ∧
      i ≤ q.length ∧ q.length ≤ qs.length ∧ ∃ pre post, picks (kept lost (colN d p n)).length q.length 0 = pre ++ q :: post ∧ ∀ x ∈ pre, BadQ d p n v lost s0 s1 s2 s3 x := by
  have gp := g.pN
  have g8 := g.N8
  have lv1 := S.lv1
  have kv1 := S.kv1
  have lv0 := S.lv0
  have kl8 := kept_le lost (colN d p n)
  induction mm with
  | zero =>
    intro f i h nx e hf hnx hh
    obtain ⟨f, rfl⟩ : ∃ m, f = m + 1 := ⟨f - 1, by omega⟩
    have hqm := picks_mem (Nat.zero_le _) hqs
    have hkl : i ≤ (kept lost (colN d p n)).length := by
      have hpw := hqm.2.2
      have hlt : ∀ x ∈ qs, x < (kept lost (colN d p n)).length := fun x hx => (hqm.2.1 x hx).2
      have hnd : qs.Nodup := hpw.imp fun h => Nat.ne_of_lt h
      have := cnt_mem hlt hnd
      have := cnt_le (fun j => decide (j ∈ qs)) (kept lost (colN d p n)).length
      omega
    have bl := (hh lv lv1).trans S.bl
    have bk := (hh kv kv1).trans S.bk
    rw [F12_L2_eq]
    simp only [mst_]
    rw [ld_at bl rfl]
    simp only [mst_]
    rw [show wrapA .i64 ((p : Int) - ((cnt lost (colN d p n) : Nat) : Int)) = ((p - cnt lost (colN d p n) : Nat) : Int) from by rw [wA (by omega) (by omega)]; omega, if_pos (by simp; omega)]
    rw [ld_at bk rfl]
    simp only [mst_]
    rw [if_pos (by simpa using hkl), F12_J3_eq]
    simp only [mst_]
    rw [ld_at bk rfl]
    simp only [mst_]
    rw [F19_eq]
    simp only [mst_]
    rw [asFn_fn]
    simp only [mst_]
    simp only [List.nil_append, List.singleton_append]
    obtain ⟨rec, hrec⟩ : ∃ rec, rec = nx + 12 + 4 + 5 := ⟨_, rfl⟩
    rw [← hrec]
    obtain ⟨h2, hh2⟩ : ∃ h2, h2 = ((h.put (nx + 12 + 4) (some ⟨[.int .i64 (((kept lost (colN d p n)).length : Nat) : Int)], 1, true⟩)).put (nx + 12 + 4 + 1) (some ⟨[.int .i64 (i : Int)], 1, true⟩)).put rec (some ⟨[], LB, true⟩) := ⟨_, rfl⟩
    rw [← hh2]
    have k2 : ∀ j, j < nb → h2 j = hb j := fun j hj => by rw [hh2, put_ne (by omega), put_ne (by omega), put_ne (by omega), hh j hj]
    have r2 : h2 rec = some ⟨[], LB, true⟩ := by rw [hh2, put_same]
    have hVp : ∀ q, q ∈ picks (kept lost (colN d p n)).length i 0 → (∀ x ∈ q, x < (kept lost (colN d p n)).length) ∧ q.Nodup ∧ cnt lost (colN d p n) + q.length ≤ p := fun q hq => by
      obtain ⟨z1, z2, z3⟩ := picks_mem (Nat.zero_le _) hq
      exact ⟨fun x hx => (z2 x hx).2, z3.imp fun h => Nat.ne_of_lt h, by omega⟩
    have hE := each_spec (search_y (k := k + 1) (by omega) (k + 1) f rec (by omega) g hp hp3 hn32 hm1 hmn (v := v) S sp cl hVp) (f := k + 1) (k := i) (n := (kept lost (colN d p n)).length) (l := rec) (N := rec + 1) (kb := nx + 12 + 4 + 1) (nb := nx + 12 + 4) (by omega) (by omega) (by omega) (O := fun j => j < nb ∨ j = rec) (h := h2)
      ⟨fun j => Iff.rfl, by omega, by omega, k2, r2, fun x hx => by cases hx⟩ (by rw [hh2, put_ne (by omega), put_same]) (by rw [hh2, put_ne (by omega), put_ne (by omega), put_same]) (by omega) (by omega) (by omega) (by omega) (picks_few (by omega) (by omega)) (fun y hy => hy)
    rcases hE with ⟨h3, n3, pre, q, post, e3, hpk, us, da, ya, yc, G⟩ | ⟨O', h3, n3, e3, l3, A, _, _⟩
    · rw [e3, some_bind]
      dsimp only
      rw [G.r, some_bind]
      dsimp only
      rw [if_neg (by decide), if_pos (by decide)]
      have pr : ∀ j, j ≠ rec → (h3.put rec none) j = h3 j := fun j hj => put_ne hj
      rw [ld_at ((pr _ (by omega)).trans G.b3) rfl]
      simp only [mst_]
      rw [ld_at ((pr _ (by omega)).trans G.b4) rfl]
      simp only [mst_]
      rw [ld_at ((pr _ (by omega)).trans G.b5) rfl]
      simp only [mst_]
      have hql := (picks_mem (Nat.zero_le _) G.hv).1
      refine ⟨q, us, da, ya, yc, h3.put rec none, n3, rfl, G.nn, fun j hj => by rw [pr j (by omega), G.lo j hj], G.hus, G.sum, ?_, ?_, by omega, by omega, pre, post, by rw [hql]; exact hpk, G.acc⟩
      · exact G.sd.fr (D := fun j => j = rec) (fun _ pp hpp z => G.nd pp hpp z) ⟨Nat.le_refl _, fun j _ hne => pr j hne⟩
      · exact G.sy.fr (D := fun j => j = rec) (fun h0 pp hpp z => G.ny pp hpp h0 z) ⟨Nat.le_refl _, fun j _ hne => pr j hne⟩
    · obtain ⟨A1, A2, A3, A4, A5, A6⟩ := A
      obtain rfl : i = qs.length := by omega
      obtain ⟨us, hu, hbad⟩ := A6 qs hqs
      exact absurd (good us hu) hbad
  | succ mm ih =>
    intro f i h nx e hf hnx hh
    obtain ⟨f, rfl⟩ : ∃ m, f = m + 1 := ⟨f - 1, by omega⟩
    have hqm := picks_mem (Nat.zero_le _) hqs
    have hkl : i ≤ (kept lost (colN d p n)).length := by
      have hpw := hqm.2.2
      have hlt : ∀ x ∈ qs, x < (kept lost (colN d p n)).length := fun x hx => (hqm.2.1 x hx).2
      have hnd : qs.Nodup := hpw.imp fun h => Nat.ne_of_lt h
      have := cnt_mem hlt hnd
      have := cnt_le (fun j => decide (j ∈ qs)) (kept lost (colN d p n)).length
      omega
    have bl := (hh lv lv1).trans S.bl
    have bk := (hh kv kv1).trans S.bk
    rw [F12_L2_eq]
    simp only [mst_]
    rw [ld_at bl rfl]
    simp only [mst_]
    rw [show wrapA .i64 ((p : Int) - ((cnt lost (colN d p n) : Nat) : Int)) = ((p - cnt lost (colN d p n) : Nat) : Int) from by rw [wA (by omega) (by omega)]; omega, if_pos (by simp; omega)]
    rw [ld_at bk rfl]
    simp only [mst_]
    rw [if_pos (by simpa using hkl), F12_J3_eq]
    simp only [mst_]
    rw [ld_at bk rfl]
    simp only [mst_]
    rw [F19_eq]
    simp only [mst_]
    rw [asFn_fn]
    simp only [mst_]
    simp only [List.nil_append, List.singleton_append]
    obtain ⟨rec, hrec⟩ : ∃ rec, rec = nx + 12 + 4 + 5 := ⟨_, rfl⟩
    rw [← hrec]
    obtain ⟨h2, hh2⟩ : ∃ h2, h2 = ((h.put (nx + 12 + 4) (some ⟨[.int .i64 (((kept lost (colN d p n)).length : Nat) : Int)], 1, true⟩)).put (nx + 12 + 4 + 1) (some ⟨[.int .i64 (i : Int)], 1, true⟩)).put rec (some ⟨[], LB, true⟩) := ⟨_, rfl⟩
    rw [← hh2]
    have k2 : ∀ j, j < nb → h2 j = hb j := fun j hj => by rw [hh2, put_ne (by omega), put_ne (by omega), put_ne (by omega), hh j hj]
    have r2 : h2 rec = some ⟨[], LB, true⟩ := by rw [hh2, put_same]
    have hVp : ∀ q, q ∈ picks (kept lost (colN d p n)).length i 0 → (∀ x ∈ q, x < (kept lost (colN d p n)).length) ∧ q.Nodup ∧ cnt lost (colN d p n) + q.length ≤ p := fun q hq => by
      obtain ⟨z1, z2, z3⟩ := picks_mem (Nat.zero_le _) hq
      exact ⟨fun x hx => (z2 x hx).2, z3.imp fun h => Nat.ne_of_lt h, by omega⟩
    have hE := each_spec (search_y (k := k + 1) (by omega) (k + 1) f rec (by omega) g hp hp3 hn32 hm1 hmn (v := v) S sp cl hVp) (f := k + 1) (k := i) (n := (kept lost (colN d p n)).length) (l := rec) (N := rec + 1) (kb := nx + 12 + 4 + 1) (nb := nx + 12 + 4) (by omega) (by omega) (by omega) (O := fun j => j < nb ∨ j = rec) (h := h2)
      ⟨fun j => Iff.rfl, by omega, by omega, k2, r2, fun x hx => by cases hx⟩ (by rw [hh2, put_ne (by omega), put_same]) (by rw [hh2, put_ne (by omega), put_ne (by omega), put_same]) (by omega) (by omega) (by omega) (by omega) (picks_few (by omega) (by omega)) (fun y hy => hy)
    rcases hE with ⟨h3, n3, pre, q, post, e3, hpk, us, da, ya, yc, G⟩ | ⟨O', h3, n3, e3, l3, A, _, _⟩
    · rw [e3, some_bind]
      dsimp only
      rw [G.r, some_bind]
      dsimp only
      rw [if_neg (by decide), if_pos (by decide)]
      have pr : ∀ j, j ≠ rec → (h3.put rec none) j = h3 j := fun j hj => put_ne hj
      rw [ld_at ((pr _ (by omega)).trans G.b3) rfl]
      simp only [mst_]
      rw [ld_at ((pr _ (by omega)).trans G.b4) rfl]
      simp only [mst_]
      rw [ld_at ((pr _ (by omega)).trans G.b5) rfl]
      simp only [mst_]
      have hql := (picks_mem (Nat.zero_le _) G.hv).1
      refine ⟨q, us, da, ya, yc, h3.put rec none, n3, rfl, G.nn, fun j hj => by rw [pr j (by omega), G.lo j hj], G.hus, G.sum, ?_, ?_, by omega, by omega, pre, post, by rw [hql]; exact hpk, G.acc⟩
      · exact G.sd.fr (D := fun j => j = rec) (fun _ pp hpp z => G.nd pp hpp z) ⟨Nat.le_refl _, fun j _ hne => pr j hne⟩
      · exact G.sy.fr (D := fun j => j = rec) (fun h0 pp hpp z => G.ny pp hpp h0 z) ⟨Nat.le_refl _, fun j _ hne => pr j hne⟩
    · obtain ⟨A1, A2, A3, A4, A5, A6⟩ := A
      rw [e3, some_bind]
      dsimp only
      rw [A5, some_bind]
      dsimp only
      rw [if_pos (by decide), wsucc (by omega)]
      obtain ⟨q, us, da, ya, yc, h', nx', z1, zn, z3, z4, z5, z6, z7, z8, z9, z10⟩ := ih f (i + 1) (h3.put rec none) (n3 + 3) (by omega) (by omega) (by omega) (fun j hj => by rw [put_ne (by omega), A4 j hj])
      exact ⟨q, us, da, ya, yc, h', nx', z1, zn, z3, z4, z5, z6, z7, by omega, z9, z10⟩

/-- stripe.Gather finds something, if there is something to be found. -/
theorem gather_find {k : Nat} (hk : 5900 ≤ k) {d p a m n : Nat} (hd : 2 ≤ d) (hd' : d ≤ 8) (hp : 1 ≤ p) (hp' : p ≤ 3) (hpd : p < d) (ha : a ≤ 65536) (hm : 1 ≤ m) (hm' : m ≤ 4000) (hn : n = (m + 127) / 128) {v : Nat → List Nat} {P : Nat → Tri} {lost : Nat → Bool} {xa : Option (Nat × Nat)} (xc : Bool) {s0 s1 s2 s3 : Int} {h : AHeap} {nx : Nat}
    (sp : Sl h nx xa (colN d p n) 2 (prows P lost (colN d p n)).flatten) (cl : ColsL h nx (colN d p n) (bw d p n) v lost P)
    {qs : List Nat} (hqs : qs ∈ picks (kept lost (colN d p n)).length qs.length 0) (htq : cnt lost (colN d p n) + qs.length ≤ p) (good : ∀ us, UsOk d p n (gsQ d p n lost qs) us → SumEq (tryB d p n v lost (gsQ d p n lost qs) us) s0 s1 s2 s3) :
    ∃ q us da ya yc h' nx', callP Try.prog keepT (k + 2) Y0 12 [.int .i64 (d : Int), .int .i64 (p : Int), .int .i64 (a : Int), .int .i64 (m : Int), .slice xa (colN d p n) xc, .agg [.int .i64 s0, .int .i64 s1, .int .i64 s2, .int .i64 s3]] h nx = some (.tuple [.slice da m true, .slice ya q.length yc, .int .i64 0], h', nx') ∧ nx ≤ nx' ∧ (∀ j, j < nx → h' j = h j) ∧
      UsOk d p n (gsQ d p n lost q) us ∧ SumEq (tryB d p n v lost (gsQ d p n lost q) us) s0 s1 s2 s3 ∧ Sl h' nx' da m 1 (ints .u8 (nints ((tryB d p n v lost (gsQ d p n lost q) us).take m))) ∧ Sl h' nx' ya q.length 1 (ints .i64 (nints (pickK (kept lost (colN d p n)) q))) ∧
      q.length ≤ qs.length ∧ ∃ pre post, picks (kept lost (colN d p n)).length q.length 0 = pre ++ q :: post ∧ ∀ x ∈ pre, BadQ d p n v lost s0 s1 s2 s3 x := by
  have hn1 : 1 ≤ n ∧ n ≤ 32 := by omega
  have g := geo d p n hd' hp' (by omega) hd hp hpd (by omega)
  obtain ⟨f', sa, sc, lv, kv, la, ka, lc, kc, h1, n1, e1, x1, S⟩ := gather_scan (k := k + 1) (by omega) hd hd' hp hp' hpd ha hm hm' hn xc (s0 := s0) (s1 := s1) (s2 := s2) (s3 := s3) sp (fun k hk hl => (cl.c k hk hl).1)
  rw [e1, F12_L1_eq, if_neg (by simp)]
  simp only [mst_]
  rw [ld_at S.bl rfl]
  simp only [mst_]
  rw [if_neg (by simp; omega)]
  obtain ⟨q, us, da, ya, yc, h', nx', z1, zn, z3, z4, z5, z6, z7, _, z9, z10⟩ := search_loop hk g hp hp' hn1.2 hm (by omega) S (sp.ext x1) (cl.ext x1) hqs htq good qs.length (k + 1) 0 h1 (n1 + 6) (by omega) (by omega) (by omega) (fun _ _ => rfl)
  rw [show ((0 : Nat) : Int) = 0 from rfl] at z1
  rw [z1]
  exact ⟨q, us, da, ya, yc, h', nx', rfl, zn, fun j hj => by rw [z3 j hj, x1.2 j hj], z4, z5, z6, z7, z9, z10⟩

end Go.Proofs.Ytalfcokiooaliaa.T
