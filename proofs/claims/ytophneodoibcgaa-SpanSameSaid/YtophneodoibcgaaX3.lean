/- Ranges in memory; one, May, told. -/
import Derived.Test.YtophneodoibcgaaX2
set_option linter.unusedVariables false
set_option linter.unusedSimpArgs false
namespace Go.Proofs.Ytophneodoibcgaa.T
open Go Go.RowKit Go.Proofs

/-- A slice of ranges. -/
def RS (h : AHeap) (nx : Nat) (a : Option (Nat × Nat)) (l : RL) : Prop := Sl h nx a l.length 2 (pairCells l)
section
variable {R : Type} {h h' : AHeap} {nx nx' : Nat} {a : Option (Nat × Nat)} {l : RL}
theorem RS.ext (s : RS h nx a l) (x : Ext h nx h' nx') : RS h' nx' a l := Sl.ext s x
theorem RS.rd (s : RS h nx a l) {k : Nat} {m : Int × Int} (hm : l[k]? = some m) :
    (∀ Kc : AV → Option R, (a.bind fun p => if 0 ≤ (k : Int) ∧ (k : Int) < ((l.length : Nat) : Int) then (ldA h p.1 (p.2 + Int.toNat (k : Int) * 2)).bind Kc else none) = Kc (.int .i64 m.1)) ∧
    (∀ Kc : AV → Option R, (a.bind fun p => if 0 ≤ (k : Int) ∧ (k : Int) < ((l.length : Nat) : Int) then (ldA h p.1 (p.2 + Int.toNat (k : Int) * 2 + 1)).bind Kc else none) = Kc (.int .i64 m.2)) ∧
    (∀ Kc : List AV → Option R, (a.bind fun p => if 0 ≤ (k : Int) ∧ (k : Int) < ((l.length : Nat) : Int) then (ldR h p.1 (p.2 + Int.toNat (k : Int) * 2) 2).bind Kc else none) = Kc [.int .i64 m.1, .int .i64 m.2]) := by
  have s : Sl h nx a l.length 2 (pairCells l) := s
  have hk := (List.getElem?_eq_some_iff.1 hm).1
  have trow : (l.map pairAV)[k]? = some (pairAV m) := by rw [List.getElem?_map, hm]; rfl
  have hes : ∀ r ∈ l.map pairAV, r.length = 2 := fun r hr => by obtain ⟨u, _, rfl⟩ := List.mem_map.1 hr; rfl
  have t0 := flat_get (rows := l.map pairAV) (es := 2) (i := k) (f := 0) hes trow (by omega)
  have t1 := flat_get (rows := l.map pairAV) (es := 2) (i := k) (f := 1) hes trow (by omega)
  have t2 := flat_drop (rows := l.map pairAV) (es := 2) (i := k) hes trow
  rw [Nat.add_zero] at t0
  exact ⟨fun Kc => s.read0 (by omega) (by omega) (by omega) (by rw [Int.toNat_natCast]; exact t0) Kc, fun Kc => s.read (f := 1) (by omega) (by omega) (by omega) (by rw [Int.toNat_natCast]; exact t1) Kc, fun Kc => by
    rw [s.readR hk]
    show Kc (((l.map pairAV).flatten.drop (k * 2)).take 2) = _
    rw [t2]; rfl⟩
end

def MAXC : Int := 1048576

theorem one_spec {f : Nat} (hf : 1 ≤ f) (Y : YldF) {r : Int × Int} (hr : 0 ≤ r.1 ∧ r.1 < r.2 ∧ r.2 ≤ MAXC) (h : AHeap) (nx : Nat) :
    callP Try.prog keepT f Y 18 [.agg [.int .i64 r.1, .int .i64 r.2]] h nx = some (.bool true, h.put nx (some ⟨[.int .i64 r.1, .int .i64 r.2], 2, true⟩), nx + 18) := by
  obtain ⟨f, rfl⟩ : ∃ m, f = m + 1 := ⟨f - 1, by omega⟩
  have hM : MAXC = 1048576 := rfl
  rw [F18_eq]
  dsimp only
  rw [ld_at (put_same _ _ _) (v := .int .i64 r.1) rfl]
  simp only [mst_]
  rw [if_pos (show decide (r.1 ≥ 0) = true from decide_eq_true (by omega)), ld_at (put_same _ _ _) (v := .int .i64 r.1) rfl]
  simp only [mst_]
  rw [ld_at (put_same _ _ _) (v := .int .i64 r.2) rfl]
  simp only [mst_]
  rw [if_pos (show decide (r.1 < r.2) = true from decide_eq_true (by omega)), ld_at (put_same _ _ _) (v := .int .i64 r.2) rfl]
  simp only [mst_]
  rw [decide_eq_true (show r.2 ≤ 1048576 by omega)]

theorem may_loop {f lf : Nat} (hf : 1 ≤ f) {h0 : AHeap} {n0 : Nat} {a : Option (Nat × Nat)} {c : Option Nat} {l : RL} {m : Nat} (hm : m ≤ 200) (w : Set' MAXC m l) (s : RS h0 n0 a l) (Y : YldF) (d : Nat) :
    ∀ (k i : Nat) (h : AHeap) (nx : Nat), i + d = l.length → d < k → Ext h0 n0 h nx →
      ∃ h' nx', F15_L1 (callP Try.prog keepT f) Y lf k a l.length c a l.length c ((l.length : Nat) : Int) (i : Int) h nx = some (.bool true, h', nx') ∧ Ext h0 n0 h' nx' := by
  have hl := w.n
  induction d with
  | zero =>
    intro k i h nx e hk x
    obtain ⟨k, rfl⟩ : ∃ m, k = m + 1 := ⟨k - 1, by omega⟩
    rw [F15_L1_eq, if_neg (by rw [decide_eq_true_eq]; omega), decide_eq_true (show ((l.length : Nat) : Int) ≤ 200 by omega)]
    exact ⟨h, _, rfl, x.le (by omega)⟩
  | succ d ih =>
    intro k i h nx e hk x
    obtain ⟨k, rfl⟩ : ∃ m, k = m + 1 := ⟨k - 1, by omega⟩
    have hi : i < l.length := by omega
    have hr : l[i]? = some l[i] := List.getElem?_eq_getElem hi
    obtain ⟨_, _, r3⟩ := (s.ext x).rd (R := Res) hr
    have hok := w.ok l[i] (List.getElem_mem hi)
    have hx1 := x.1
    rw [F15_L1_eq, if_pos (decide_eq_true (by omega)), r3]
    simp only [mst_]
    rw [st_all (put_same _ _ _) (by rfl) (by rfl) (by rfl), put_put]
    obtain ⟨h8, hh8⟩ : ∃ h8, h8 = h.put (nx + 4) (some ⟨[.int .i64 l[i].1, .int .i64 l[i].2], 2, true⟩) := ⟨_, rfl⟩
    rw [← hh8]
    have e8 : h8 (nx + 4) = some ⟨[.int .i64 l[i].1, .int .i64 l[i].2], 2, true⟩ := by rw [hh8, put_same]
    rw [ldr_all e8 (n := 2) rfl]
    simp only [mst_]
    rw [one_spec hf Y hok]
    simp only [mst_]
    obtain ⟨h9, hh9⟩ : ∃ h9, h9 = h8.put (nx + 25) (some ⟨[.int .i64 l[i].1, .int .i64 l[i].2], 2, true⟩) := ⟨_, rfl⟩
    rw [← hh9]
    have x9 : Ext h0 n0 h9 (nx + 25 + 18 + 2) := ⟨by omega, fun j hj => by rw [hh9, put_ne (by omega), hh8, put_ne (by omega)]; exact x.2 j hj⟩
    have e9 : h9 (nx + 4) = some ⟨[.int .i64 l[i].1, .int .i64 l[i].2], 2, true⟩ := by rw [hh9, put_ne (by omega)]; exact e8
    rw [wsucc (i := i) (by omega)]
    by_cases c0 : i = 0
    · rw [if_neg (show ¬ decide ((i : Int) > 0) = true by rw [decide_eq_true_eq]; omega)]
      exact ih k (i + 1) h9 _ (by omega) (by omega) x9
    · rw [if_pos (show decide ((i : Int) > 0) = true from decide_eq_true (by omega)), wpred c0 (by omega)]
      have hr1 : l[i - 1]? = some l[i - 1] := List.getElem?_eq_getElem (by omega)
      obtain ⟨_, q2, _⟩ := (s.ext x9).rd (R := Res) hr1
      rw [q2]
      simp only [mst_]
      rw [ld_at e9 (v := .int .i64 l[i].1) rfl]
      simp only [mst_]
      have := List.pairwise_iff_getElem.1 w.c.sep (i - 1) i (by omega) hi (by omega)
      rw [if_neg (show ¬ decide (l[i - 1].2 ≥ l[i].1) = true by rw [decide_eq_true_eq]; omega)]
      exact ih k (i + 1) h9 _ (by omega) (by omega) x9

theorem may_spec {f : Nat} (hf : 300 ≤ f) (Y : YldF) {h : AHeap} {nx : Nat} {a : Option (Nat × Nat)} (c : Option Nat) {l : RL} {m : Nat} (hm : m ≤ 200) (w : Set' MAXC m l) (s : RS h nx a l) :
    ∃ h' nx', callP Try.prog keepT f Y 15 [.slice a l.length c] h nx = some (.bool true, h', nx') ∧ Ext h nx h' nx' := by
  obtain ⟨f, rfl⟩ : ∃ m, f = m + 1 := ⟨f - 1, by omega⟩
  rw [F15_eq]
  have := w.n
  exact may_loop (f := f) (lf := f) (by omega) (c := c) hm w s Y l.length f 0 h (nx + 4) (by omega) (by omega) ⟨by omega, fun _ _ => rfl⟩

theorem told_spec {f : Nat} (hf : 1 ≤ f) (Y : YldF) (h : AHeap) (nx : Nat) (a : Option (Nat × Nat)) (c : Option Nat) {n : Nat} (hn : n ≤ 200) :
    callP Try.prog keepT f Y 19 [.slice a n c] h nx = some (.tuple [.slice a n c, .int .i64 0], h, nx + 8) := by
  obtain ⟨f, rfl⟩ : ∃ m, f = m + 1 := ⟨f - 1, by omega⟩
  rw [F19_eq, if_neg (by rw [decide_eq_true_eq]; omega)]

end Go.Proofs.Ytophneodoibcgaa.T
