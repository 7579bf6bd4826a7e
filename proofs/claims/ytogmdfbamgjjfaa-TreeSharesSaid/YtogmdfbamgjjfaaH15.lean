/- Trees: picks, blocks of data, comparisons, the bytes of a version. -/
import Derived.Test.YtogmdfbamgjjfaaH14
set_option linter.unusedVariables false
set_option linter.unusedSimpArgs false
namespace Go.Proofs.Ytogmdfbamgjjfaa.T
open Go Go.RowKit Go.Proofs

def pickL (x n : Int) : Int := if Int.tmod x n < 0 then Int.tmod x n + n else Int.tmod x n
theorem pickL_in {x n : Int} (h : 0 < n) : 0 ≤ pickL x n ∧ pickL x n < n := by
  have h1 := Int.tmod_lt_of_pos x h
  have h2 : -n < Int.tmod x n := by
    have := Int.lt_tmod_of_pos x h; omega
  unfold pickL; split <;> omega
def pickK (x n : Int) : Nat := if Int.tmod x n < 0 then 11 else 9
theorem picked_spec {f : Nat} (hf : 1 ≤ f) (Y : YldF) (x n : Int) (h0 : 0 < n) (h1 : n ≤ 100000) (h : AHeap) (nx : Nat) : callP Try.prog keepT f Y 8 [.int .i64 x, .int .i64 n] h nx = some (.int .i64 (pickL x n), h, nx + pickK x n) := by
  obtain ⟨f, rfl⟩ : ∃ m, f = m + 1 := ⟨f - 1, by omega⟩
  have hl := Int.tmod_lt_of_pos x h0
  have hg := Int.lt_tmod_of_pos x h0
  rw [F8_eq, if_neg (by omega)]
  unfold pickL pickK
  by_cases c : Int.tmod x n < 0
  · rw [if_pos (decide_eq_true c), if_pos c, if_pos c, wA (by omega) (by omega)]
  · rw [if_neg (by rw [decide_eq_true_eq]; exact c), if_neg c, if_neg c]
/-- A pick, as a number. -/
def pickN (x : Int) (n : Nat) : Nat := (pickL x n).toNat
theorem pickN_lt {x : Int} {n : Nat} (h : 0 < n) : pickN x n < n := by
  have := pickL_in (x := x) (n := (n : Int)) (by omega)
  unfold pickN; omega
theorem pickN_eq {x : Int} {n : Nat} (h : 0 < n) : pickL x n = (pickN x n : Int) := by
  have := pickL_in (x := x) (n := (n : Int)) (by omega)
  unfold pickN; omega

theorem byt_nil {h : AHeap} {nx : Nat} {A : Nat → Prop} : Byt .u8 h nx A (.slice none 0 false) [] := ⟨none, false, rfl, ⟨by simp, fun j hj => by simp at hj⟩, Av.none⟩
theorem put_comm {h : AHeap} {i j : Nat} {a b : Option ABlk} (e : i ≠ j) : (h.put i a).put j b = (h.put j b).put i a := by
  funext k
  by_cases c : k = j
  · subst c; rw [put_same, put_ne (Ne.symm e), put_same]
  · rw [put_ne c]
    by_cases c2 : k = i
    · subst c2; rw [put_same, put_same]
    · rw [put_ne c2, put_ne c2, put_ne c]
theorem puts_put {i : Nat} {a : Option ABlk} : ∀ {ss : List (Nat × Option ABlk)} {h : AHeap}, (∀ p ∈ ss, p.1 ≠ i) → (h.puts ss).put i a = (h.put i a).puts ss
  | [], _, _ => rfl
  | (j, b) :: ss, h, w => by
    rw [puts_cons, puts_put (fun p hp => w p (List.mem_cons_of_mem _ hp)), puts_cons, put_comm (w (j, b) List.mem_cons_self)]
theorem puts_at {i : Nat} {ss : List (Nat × Option ABlk)} {h : AHeap} (w : ∀ p ∈ ss, p.1 ≠ i) : h.puts ss i = h i := puts_get _ _ (fun q => by
  obtain ⟨p, hp, e⟩ := List.mem_map.1 q
  exact w p hp e)

def blockL (bs : List Int) (n : Nat) : List Int := if bs.length = 0 then [7] else bs.take n
theorem blockL_len {bs : List Int} {n : Nat} (h : 1 ≤ n) : 1 ≤ (blockL bs n).length ∧ (blockL bs n).length ≤ n := by
  unfold blockL; split
  · simp; omega
  · simp; omega

/-- Block; and beside a block that it does not see. -/
theorem block_spec {f : Nat} (hf : 1 ≤ f) (Y : YldF) {bs : List Int} {n : Nat} (h1 : 1 ≤ n) (hn : n ≤ 1000) {a : Option (Nat × Nat)} (c : Bool) {h : AHeap} {nx ns : Nat} (sl : Sl h ns a bs.length 1 (ints .u8 bs)) (hs : ns ≤ nx) :
    ∃ a2 c2 h' nx', callP Try.prog keepT f Y 9 [.slice a bs.length c, .int .i64 (n : Int)] h nx = some (.slice a2 (blockL bs n).length c2, h', nx') ∧ Ext h nx h' nx' ∧ OwnSl h' nx nx' a2 (blockL bs n).length 1 (ints .u8 (blockL bs n)) ∧
      ∀ ss : List (Nat × Option ABlk), (∀ p ∈ ss, ns ≤ p.1 ∧ p.1 < nx) → callP Try.prog keepT f Y 9 [.slice a bs.length c, .int .i64 (n : Int)] (h.puts ss) nx = some (.slice a2 (blockL bs n).length c2, h'.puts ss, nx') := by
  obtain ⟨f, rfl⟩ : ∃ m, f = m + 1 := ⟨f - 1, by omega⟩
  simp only [F9_eq]
  by_cases c0 : bs.length = 0
  · rw [if_pos (by rw [beq_iff_eq]; omega)]
    have e : blockL bs n = [7] := by unfold blockL; rw [if_pos c0]
    rw [e]
    refine ⟨some (nx + 4, 0), true, _, _, rfl, ⟨by omega, fun i hi => put_ne (by omega)⟩, ⟨rfl, .inr ⟨nx + 4, rfl, by omega, by omega, put_same _ _ _⟩⟩, fun ss w => ?_⟩
    rw [if_pos (by rw [beq_iff_eq]; omega)]
    rw [puts_put (fun p hp => by have := w p hp; omega)]
    rfl
  · rw [if_neg (by rw [beq_iff_eq]; omega)]
    have hmin : (if (n : Int) < ((bs.length : Nat) : Int) then (n : Int) else ((bs.length : Nat) : Int)) = ((min n bs.length : Nat) : Int) := by split <;> omega
    rw [hmin]
    have e : blockL bs n = bs.take (min n bs.length) := by
      unfold blockL; rw [if_neg c0, List.take_eq_take_iff]; try omega
    have el : (blockL bs n).length = min n bs.length := by rw [e]; simp
    have cut : ∀ (h : AHeap), cutA h a bs.length c 1 none (some (.int .i64 ((min n bs.length : Nat) : Int))) none = some (shiftAddr a (0 * 1), min n bs.length - 0, c && min n bs.length == bs.length) := by
      intro h
      unfold cutA boundsD
      simp only [bound_some (show min n bs.length ≤ bs.length by omega), bound_none, Option.bind_some]
      rw [if_pos (by simp)]
    have sc := (sl.cut c (lo := 0) (hi := min n bs.length) (l := none) (r := some (.int .i64 ((min n bs.length : Nat) : Int))) (by omega) (by omega) rfl (bound_some (by omega))).2.1
    rw [Nat.sub_zero] at sc
    have hv : ((ints .u8 bs).drop (0 * 1)).take (min n bs.length * 1) = ints .u8 (blockL bs n) := by
      rw [e, Nat.mul_one]; simp [ints]
    rw [hv] at sc
    -- the source
    obtain ⟨p, blk, hp, hp2, hp3, hp4, hp5, _⟩ := sc.2 0 (by omega)
    obtain ⟨rd, src⟩ := sc.src'
    have src2 : ∀ ss : List (Nat × Option ABlk), (∀ p ∈ ss, ns ≤ p.1 ∧ p.1 < nx) → srcS (h.puts ss) (shiftAddr a (0 * 1)) (min n bs.length) 1 = some (min n bs.length, ints .u8 (blockL bs n), rd) := fun ss w => by
      rw [← src, hp]
      unfold srcS
      simp only
      rw [puts_at (fun q hq => by have := w q hq; omega)]
    have x0 : Sl h nx (shiftAddr a (0 * 1)) (min n bs.length) 1 (ints .u8 (blockL bs n)) := sc.ext ⟨hs, fun _ _ => rfl⟩
    obtain ⟨e4, f1, f2, f3, f4⟩ := copyOf (h := h) (nx := nx) (n := min n bs.length) (es := 1) (bytes := 1) (id := nx + 10) (vs := ints .u8 (blockL bs n)) (rd := rd) (by rw [Nat.mul_one]; simp [ints, el]) (growOk_of (by omega) (by omega)) (by omega)
    simp only [cut, Nat.sub_zero]
    simp only [mst_]
    rw [src]
    simp only [mst_]
    rw [f1]
    simp only [mst_]
    rw [f2, el]
    refine ⟨e4.a, e4.c, _, _, rfl, f4.le (by omega), f3.le (by omega), fun ss w => ?_⟩
    rw [if_neg (by rw [beq_iff_eq]; omega), src2 ss w]
    simp only [mst_]
    have f1' : appD (h.puts ss) none 0 false 1 1 (nx + 10) (min n bs.length, ints .u8 (blockL bs n), rd) = some e4 := by rw [← f1]; rfl
    rw [f1']
    simp only [mst_]
    rw [f2]
    have hset : e4.sets = [] ∨ ∃ b, e4.sets = [(nx + 10, b)] := by
      unfold appD at f1
      rw [if_neg (by omega), if_pos (growOk_of (by omega) (by omega))] at f1
      simp only at f1
      obtain rfl := Option.some.inj f1
      exact .inr ⟨_, rfl⟩
    rcases hset with q | ⟨b, q⟩
    · rw [q]; rfl
    · rw [q]; simp only [puts_cons, puts_nil]
      rw [puts_put (fun p hp => by have := w p hp; omega)]

theorem same_loop {f : Nat} {Y : YldF} {a b : Option (Nat × Nat)} {ca cb : Bool} {u v : List Int} {h : AHeap} {n0 : Nat} (su : Sl h n0 a u.length 1 (ints .u8 u)) (sv : Sl h n0 b v.length 1 (ints .u8 v)) (he : u.length = v.length) (hu : u.length ≤ 10000) (d : Nat) :
    ∀ (lf k nx : Nat), k + d = u.length → d < lf → ∃ m, nx ≤ m ∧ F15_L1 (callP Try.prog keepT f) Y f lf a u.length ca b v.length cb (k : Int) h nx = some (.bool (decide (u.drop k = v.drop k)), h, m) := by
  induction d with
  | zero =>
    intro lf k nx e hl
    obtain ⟨lf, rfl⟩ : ∃ m, lf = m + 1 := ⟨lf - 1, by omega⟩
    obtain rfl : k = u.length := by omega
    rw [F15_L1_eq, if_neg (by rw [decide_eq_true_eq]; omega)]
    exact ⟨_, Nat.le_add_right _ 5, by rw [List.drop_length, he, List.drop_length]; rfl⟩
  | succ d ih =>
    intro lf k nx e hl
    obtain ⟨lf, rfl⟩ : ∃ m, lf = m + 1 := ⟨lf - 1, by omega⟩
    have hk : k < u.length := by omega
    have hk2 : k < v.length := by omega
    rw [F15_L1_eq, if_pos (decide_eq_true (by omega)), su.read0 (v := .int .u8 u[k]) (i := k) (by omega) (by omega) (by omega) (by simp [ints, hk])]
    simp only [mst_]
    rw [sv.read0 (v := .int .u8 v[k]) (i := k) (by omega) (by omega) (by omega) (by simp [ints, hk2])]
    simp only [mst_]
    rw [List.drop_eq_getElem_cons hk, List.drop_eq_getElem_cons hk2]
    by_cases c : u[k] = v[k]
    · rw [if_neg (by simp [c]), wsucc (by omega)]
      obtain ⟨m, l, q⟩ := ih lf (k + 1) (nx + 16) (by omega) (by omega)
      refine ⟨m, by omega, ?_⟩
      rw [q, c]; simp only [List.cons.injEq, true_and]
    · rw [if_pos (by simpa using c)]
      exact ⟨_, Nat.le_add_right _ 14, by simp only [List.cons.injEq, c, false_and, decide_false]⟩
theorem same_spec {f : Nat} (hf : 10010 ≤ f) (Y : YldF) {a b : Option (Nat × Nat)} (ca cb : Bool) {u v : List Int} {h : AHeap} {n0 : Nat} (su : Sl h n0 a u.length 1 (ints .u8 u)) (sv : Sl h n0 b v.length 1 (ints .u8 v)) (hu : u.length ≤ 10000) (nx : Nat) :
    ∃ m, nx ≤ m ∧ callP Try.prog keepT f Y 15 [.slice a u.length ca, .slice b v.length cb] h nx = some (.bool (decide (u = v)), h, m) := by
  obtain ⟨f, rfl⟩ : ∃ m, f = m + 1 := ⟨f - 1, by omega⟩
  rw [F15_eq]
  by_cases c : u.length = v.length
  · rw [if_neg (by simp [c])]
    obtain ⟨m, l, q⟩ := same_loop (f := f) (Y := Y) (ca := ca) (cb := cb) su sv c hu u.length f 0 (nx + 7) (by omega) (by omega)
    exact ⟨m, by omega, q⟩
  · rw [if_pos (by rw [bne_iff_ne]; omega)]
    refine ⟨_, Nat.le_add_right _ 7, ?_⟩
    have : ¬ u = v := fun e => c (by rw [e])
    simp [this]

end Go.Proofs.Ytogmdfbamgjjfaa.T
