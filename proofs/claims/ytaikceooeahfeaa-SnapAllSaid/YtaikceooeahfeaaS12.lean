/- Snaps: Picked, MovesOf, snapped. -/
import Derived.Test.YtaikceooeahfeaaS11
set_option linter.unusedVariables false
set_option linter.unusedSimpArgs false
namespace Go.Proofs.Ytaikceooeahfeaa.T
open Go Go.RowKit Go.Proofs

def pickL (x n : Int) : Int := if Int.tmod x n < 0 then Int.tmod x n + n else Int.tmod x n
theorem pickL_in {x n : Int} (h : 0 < n) : 0 ≤ pickL x n ∧ pickL x n < n := by
  have h1 : Int.tmod x n < n := Int.tmod_lt_of_pos x h
  have h2 : -n < Int.tmod x n := by have := Int.lt_tmod_of_pos x h; omega
  unfold pickL
  split <;> omega
def pickK (x n : Int) : Nat := if Int.tmod x n < 0 then 11 else 9
theorem picked_spec {f : Nat} (hf : 1 ≤ f) (Y : YldF) (x n : Int) (h0 : 0 < n) (h1 : n ≤ 100000000) (h : AHeap) (nx : Nat) : callP Try.prog keepT f Y 8 [.int .i64 x, .int .i64 n] h nx = some (.int .i64 (pickL x n), h, nx + pickK x n) := by
  obtain ⟨f, rfl⟩ : ∃ m, f = m + 1 := ⟨f - 1, by omega⟩
  have h2 : Int.tmod x n < n := Int.tmod_lt_of_pos x h0
  have h3 : -n < Int.tmod x n := by have := Int.lt_tmod_of_pos x h0; omega
  rw [F8_eq, if_neg (by omega)]
  unfold pickL pickK
  by_cases c : Int.tmod x n < 0
  · rw [if_pos (decide_eq_true c), if_pos c, if_pos c, wA (by omega) (by omega)]
  · rw [if_neg (by rw [decide_eq_true_eq]; exact c), if_neg c, if_neg c]

def kindP (k : Int) : Int := (([1, 1, 1, 2, 2, 3, 4] : List Int)[k.toNat]?).getD 0
def moveOf (t : Int × Int) : Int × Int := (kindP (pickL t.1 7), pickL t.2 12)
def movesP (ts : List (Int × Int)) (n : Nat) : List (Int × Int) := (ts.take n).map moveOf

theorem kindP_get {k : Int} (h : 0 ≤ k ∧ k < 7) : ([.int .i64 1, .int .i64 1, .int .i64 1, .int .i64 2, .int .i64 2, .int .i64 3, .int .i64 4] : List AV)[k.toNat]? = some (.int .i64 (kindP k)) := by
  obtain ⟨n, rfl⟩ : ∃ n : Nat, k = n := ⟨k.toNat, by omega⟩
  have hn : n < 7 := by omega
  rw [Int.toNat_natCast]
  match n, hn with
  | 0, _ => rfl
  | 1, _ => rfl
  | 2, _ => rfl
  | 3, _ => rfl
  | 4, _ => rfl
  | 5, _ => rfl
  | 6, _ => rfl

theorem moves_loop {f lf : Nat} (hf : 1 ≤ f) {h0 : AHeap} {nx0 : Nat} {a : Option (Nat × Nat)} {c : Option Nat} {ts : List (Int × Int)} {n : Nat} (hn : n ≤ 1000) (s : Sl h0 nx0 a ts.length 2 (ts.map mrow).flatten) {tb : Nat} (ht : nx0 ≤ tb) (d : Nat) :
    ∀ (n0 k : Nat) (h : AHeap) (nx : Nat) (oa : Option (Nat × Nat)) (oc : Option Nat), k + d = min n ts.length → d < n0 → tb < nx → h tb = some ⟨[.int .i64 1, .int .i64 1, .int .i64 1, .int .i64 2, .int .i64 2, .int .i64 3, .int .i64 4], 1, true⟩ → OwnRows (fun m r => r = mrow m) h nx oa 2 (movesP ts k) → (∀ j, ownOf oa j → tb < j) → Ext h0 nx0 h nx →
      ∃ ra rc h' nx', F6_L1 (callP Try.prog keepT f) Y0 lf n0 a ts.length c (n : Int) (some (tb, 0)) 7 (some 7) oa (movesP ts k).length oc (k : Int) h nx = some (.slice ra (movesP ts n).length rc, h', nx') ∧ OwnRows (fun m r => r = mrow m) h' nx' ra 2 (movesP ts n) ∧ Ext h0 nx0 h' nx' ∧ ∀ j, ownOf ra j → nx0 ≤ j := by
  induction d with
  | zero =>
    intro n0 k h nx oa oc e hl hb e1 w own x
    obtain ⟨n0, rfl⟩ : ∃ m, n0 = m + 1 := ⟨n0 - 1, by omega⟩
    have hm : movesP ts n = movesP ts k := by
      unfold movesP
      by_cases c : n ≤ ts.length
      · rw [show n = k by omega]
      · rw [List.take_of_length_le (by omega), List.take_of_length_le (by omega)]
    rw [F6_L1_eq, hm]
    have fin : ∀ N, nx ≤ N → OwnRows (fun m r => r = mrow m) h N oa 2 (movesP ts k) := fun N hN => w.go (D := fun _ => False) ((Frm.refl _ h nx).le hN) (fun _ _ q => q) fun _ _ q => q
    by_cases c1 : k < ts.length
    · rw [if_pos (decide_eq_true (by omega)), if_neg (by rw [decide_eq_true_eq]; omega)]
      exact ⟨oa, oc, h, nx + 11, rfl, fin _ (by omega), x.le (by omega), fun j hj => by have := own j hj; omega⟩
    · rw [if_neg (by rw [decide_eq_true_eq]; omega)]
      exact ⟨oa, oc, h, nx + 11, rfl, fin _ (by omega), x.le (by omega), fun j hj => by have := own j hj; omega⟩
  | succ d ih =>
    intro n0 k h nx oa oc e hl hb e1 w own x
    obtain ⟨n0, rfl⟩ : ∃ m, n0 = m + 1 := ⟨n0 - 1, by omega⟩
    have hk : k < ts.length := by omega
    have hkn : k < n := by omega
    rw [F6_L1_eq, if_pos (decide_eq_true (by omega)), if_pos (decide_eq_true (by omega)), F6_J2_eq]
    have s' : Sl h nx a ts.length 2 (ts.map mrow).flatten := s.ext x
    have trow : (ts.map mrow)[k]? = some (mrow ts[k]) := by simp [hk]
    have tfl := fun (fld : Nat) (hf : fld < 2) => flat_get (rows := ts.map mrow) (es := 2) (i := k) (f := fld) (fun r hr => by obtain ⟨u, _, rfl⟩ := List.mem_map.1 hr; rfl) trow hf
    obtain ⟨p, b, rfl, y2, y3, y4, y5, y6⟩ := s'.2 k hk
    have hk2 : k * 2 + 2 ≤ ts.length * 2 := by omega
    have g0 : b.cells[p.2 + k * 2]? = some (.int .i64 ts[k].1) := by rw [y6 (k * 2) (by omega)]; have := tfl 0 (by omega); rw [Nat.add_zero] at this; rw [this]; rfl
    have g1 : b.cells[p.2 + k * 2 + 1]? = some (.int .i64 ts[k].2) := by rw [Nat.add_assoc, y6 (k * 2 + 1) (by omega), tfl 1 (by omega)]; rfl
    have y3' : h p.1 = some ⟨b.cells, b.es, b.own⟩ := y3
    simp only [mst_]
    rw [if_pos ⟨by omega, by omega⟩, Int.toNat_natCast, ld_at y3' g0]
    simp only [mst_]
    have hp7 := pickL_in (x := ts[k].1) (n := 7) (by omega)
    rw [picked_spec hf Y0 ts[k].1 7 (by omega) (by omega)]
    simp only [mst_]
    have hkd := kindP_get hp7
    rw [if_pos ⟨by omega, by omega⟩, Nat.mul_one, Nat.zero_add, ld_at e1 hkd]
    simp only [mst_]
    rw [if_pos ⟨by omega, by omega⟩, ld_at y3' g1]
    simp only [mst_]
    rw [picked_spec hf Y0 ts[k].2 12 (by omega) (by omega)]
    simp only [mst_]
    have hml : (movesP ts k).length = k := by unfold movesP; rw [List.length_map, List.length_take]; omega
    have hsucc : movesP ts (k + 1) = movesP ts k ++ [moveOf ts[k]] := by unfold movesP; rw [List.take_succ_eq_append_getElem hk, List.map_append]; rfl
    obtain ⟨e16, q1, q2, q3, q4, q5, q6, _, _⟩ := w.push oc (bytes := 16) (id := nx + 9 + 17) (id2 := nx + 9 + 18) (x := moveOf ts[k]) (r := mrow (moveOf ts[k])) rfl rfl (growOk_of (by omega) (by omega)) (by omega) (by omega)
    have hmr : mrow (moveOf ts[k]) = [.int .i64 (kindP (pickL ts[k].1 7)), .int .i64 (pickL ts[k].2 12)] := rfl
    rw [hmr] at q1 q2 q5 q6
    rw [q1]
    simp only [mst_]
    rw [q2]
    simp only [mst_]
    rw [ifKept_pos (by simp only [AllKept]; exact ⟨fun _ _ => trivial, fun _ _ => trivial, trivial⟩)]
    rw [wsucc (i := k) (by omega), show e16.n = (movesP ts (k + 1)).length by rw [q4, hsucc]; simp]
    rw [← hsucc] at q5
    have own16 : ∀ j, ownOf e16.a j → j = nx + 9 + 18 := fun j ⟨o, ej⟩ => by rw [q3] at ej; cases ej; rfl
    refine ih n0 (k + 1) _ _ e16.a e16.c (by omega) (by omega) (by omega) ?_ (q5.go (D := fun _ => False) ⟨by omega, fun _ _ _ => rfl⟩ (fun _ _ q => q) fun _ _ q => q) (fun j hj => by have := own16 j hj; omega) ⟨by have := x.1; omega, fun j hj => ?_⟩
    · rw [q6.2 tb hb (fun q => by have := own tb q; omega)]; exact e1
    · rw [q6.2 j (by have := x.1; omega) (fun q => by have := own j q; omega)]; exact x.2 j hj

theorem moves_spec {f : Nat} (hf : 1600 ≤ f) {h : AHeap} {nx : Nat} {a : Option (Nat × Nat)} (c : Option Nat) {ts : List (Int × Int)} {n : Nat} (hn : n ≤ 1000) (s : Sl h nx a ts.length 2 (ts.map mrow).flatten) :
    ∃ oa oc h' nx', callP Try.prog keepT f Y0 6 [.slice a ts.length c, .int .i64 (n : Int)] h nx = some (.slice oa (movesP ts n).length oc, h', nx') ∧ OwnRows (fun m r => r = mrow m) h' nx' oa 2 (movesP ts n) ∧ Ext h nx h' nx' ∧ ∀ j, ownOf oa j → nx ≤ j := by
  obtain ⟨f, rfl⟩ : ∃ m, f = m + 1 := ⟨f - 1, by omega⟩
  rw [F6_eq]
  dsimp only
  exact moves_loop (f := f) (lf := f) (by omega) (c := c) hn s (tb := nx + 1) (by omega) (min n ts.length) f 0 _ _ none none (by omega) (by omega) (by omega) (put_same _ _ _) (OwnRows.nil _ _ _ _) (fun j ⟨o, q⟩ => by cases q) ⟨by omega, fun i hi => put_ne (by omega)⟩

theorem snapped_spec {f : Nat} (hf : 1700 ≤ f) {h : AHeap} {nx : Nat} {a : Option (Nat × Nat)} (c : Option Nat) {ms : List (Int × Int)} (hN : ms.length ≤ 300) (s : Sl h nx a ms.length 2 (ms.map mrow).flatten) :
    ∃ oa oc h' nx', callP Try.prog keepT f Y0 7 [.slice a ms.length c] h nx = some (.tuple [.slice oa ms.length oc, .bool true], h', nx') ∧ OwnRows (fun g r => Gon h' nx' (ownOf oa) r g) h' nx' oa 2 (playP pk0 ms) ∧ Ext h nx h' nx' ∧ ∀ j, ownOf oa j → nx ≤ j := by
  obtain ⟨f, rfl⟩ : ∃ m, f = m + 1 := ⟨f - 1, by omega⟩
  rw [F7_eq]
  obtain ⟨rd, src⟩ := s.src'
  rw [src]
  simp only [mst_]
  obtain ⟨e2, p1, p2, p3, p4⟩ := copyOf (h := h) (nx := nx) (n := ms.length) (es := 2) (bytes := 16) (id := nx + 3) (vs := (ms.map mrow).flatten) (rd := rd) s.1 (growOk_of (by omega) (by omega)) (by omega)
  rw [p1]
  simp only [mst_]
  rw [p2]
  have s3 : Sl (h.puts e2.sets) (nx + 10) e2.a ms.length 2 (ms.map mrow).flatten := p3.sl.ext ⟨by omega, fun _ _ => rfl⟩
  obtain ⟨oa, oc, h', nx', r1, r2, r3, r4⟩ := play_spec (f := f) (by omega) e2.c hN s3
  rw [r1]
  simp only [mst_]
  rw [if_pos (by decide)]
  refine ⟨oa, oc, h', nx' + 12, by simp, ?_, ⟨by have := r3.1; omega, fun i hi => by rw [r3.2 i (by omega)]; exact p4.2 i hi⟩, fun j hj => by have := r4 j hj; omega⟩
  have fr : Frm (fun _ => False) h' nx' h' (nx' + 12) := (Frm.refl _ h' nx').le (by omega)
  exact r2.go fr (fun _ _ q => q) fun g r q => q.go fr (fun _ _ q => q.elim) fun _ _ q => q

end Go.Proofs.Ytaikceooeahfeaa.T
