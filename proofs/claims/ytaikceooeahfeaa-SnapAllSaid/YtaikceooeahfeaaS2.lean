/- Snaps: a row is taken out; where a row stands. -/
import Derived.Test.YtaikceooeahfeaaS1
set_option linter.unusedVariables false
set_option linter.unusedSimpArgs false
namespace Go.Proofs.Ytaikceooeahfeaa.T
open Go Go.RowKit Go.Proofs

variable {R : Type}

theorem capCut_min {n : Nat} {c : Option Nat} (h : ∀ k, c = some k → n ≤ capMin k) : n ≤ capMin (capCut n c 0) := by
  unfold capCut
  cases c with
  | none => simp only; rw [capMin_ge (by omega)]; omega
  | some k =>
    simp only
    have := h k rfl
    by_cases q : k < CB
    · rw [show Nat.blt k CB = true by rw [Nat.blt_eq]; exact q, cond_true, Nat.sub_zero]; exact this
    · rw [show Nat.blt k CB = false by rw [← Bool.not_eq_true, Nat.blt_eq]; exact q, cond_false, capMin_ge (by omega)]
      rw [capMin_ge (by omega)] at this; omega
theorem capLt_no {K n m : Nat} (h : n ≤ capMin K) (hm : m ≤ n) : capLt (some K) m = false := by
  unfold capLt
  simp only
  by_cases q : K < CB
  · rw [capMin_lt q] at h
    rw [show Nat.blt K m = false by rw [← Bool.not_eq_true, Nat.blt_eq]; omega, Bool.and_false]
  · rw [show Nat.blt K CB = false by rw [← Bool.not_eq_true, Nat.blt_eq]; exact q, Bool.false_and]
theorem capIn_yes {K n m hi len : Nat} (h : n ≤ capMin K) (hm : m ≤ n) (hl : hi ≤ len) : capIn (some K) m hi len = true := by
  unfold capIn
  simp only [Bool.and_eq_true, Nat.ble_eq]
  exact ⟨by omega, hl⟩

def rowZ : List AV := [.int .i64 0, .int .i64 0, .slice none 0 none]

theorem delete_spec {f : Nat} (hf : 1 ≤ f) (Y : YldF) {a : Option (Nat × Nat)} {c : Option Nat} {rows : List (List AV)} {h : AHeap} {nx : Nat} (w : Spr h nx a c 3 rows) {i : Nat} (hi : i < rows.length) (hn : rows.length ≤ 1000) :
    ∃ h' c', callP Try.prog keepT f Y 16 [.slice a rows.length c, .int .i64 i, .int .i64 ((i + 1 : Nat) : Int)] h nx = some (.slice a (rows.length - 1) c', h', nx + 29) ∧ Spr h' nx a c' 3 (rows.eraseIdx i) ∧ ∀ j, ¬ ownOf a j → h' j = h j := by
  obtain ⟨f, rfl⟩ : ∃ m, f = m + 1 := ⟨f - 1, by omega⟩
  obtain ⟨len, cc, s⟩ := w
  have hl := flat_len len
  rcases s with ⟨_, rfl⟩ | ⟨b, sp, rfl, b1, b2⟩
  · simp at hi
  have htop : rows.length ≤ topOf (some (b, 0)) rows.length c := by cases c with | none => exact Nat.le_refl _ | some k => exact Nat.le_max_left _ _
  have hes : esIs h (some (b, 0)) 3 = true := by simp [esIs, b2]
  have hK := capCut_min cc
  have k1 : cutA h (some (b, 0)) rows.length c 3 (some (.int .i64 (i : Int))) (some (.int .i64 ((i + 1 : Nat) : Int))) (some (.int .i64 ((rows.length : Nat) : Int))) = some (some (b, 0 + i * 3), i + 1 - i, some (rows.length - i)) := by
    unfold cutA boundsD
    simp only [bound_some htop, Option.bind_some, bound_some (show i + 1 ≤ rows.length by omega), bound_some (show i ≤ i + 1 by omega), hes, Bool.or_true, if_true, shiftAddr, Option.map_some]
  have k2 : cutA h (some (b, 0)) rows.length c 3 none (some (.int .i64 (i : Int))) none = some (some (b, 0), i, some (capCut rows.length c 0)) := by
    unfold cutA boundsD
    simp only [bound_some (show i ≤ topOf (some (b, 0)) rows.length c by omega), Option.bind_some, bound_none, hes, Bool.or_true, if_true, shiftAddr, Option.map_some, Nat.zero_mul, Nat.add_zero, Nat.sub_zero]
  have k3 : cutA h (some (b, 0)) rows.length c 3 (some (.int .i64 ((i + 1 : Nat) : Int))) none none = some (some (b, 0 + (i + 1) * 3), rows.length - (i + 1), some (capCut rows.length c (i + 1))) := by
    unfold cutA boundsD
    simp only [bound_some (show i + 1 ≤ rows.length by omega), Option.bind_some, bound_none, hes, Bool.or_true, if_true, shiftAddr, Option.map_some]
  rw [F16_eq, k1]
  simp only [mst_]
  rw [if_neg (by simp; omega), k2]
  simp only [mst_]
  rw [k3]
  simp only [mst_]
  generalize hKK : capCut rows.length c 0 = K at *
  -- the rows behind it are moved
  have hT : ((rows.flatten ++ sp).drop (0 + (i + 1) * 3)).take ((rows.length - (i + 1)) * 3) = (rows.drop (i + 1)).flatten := by
    have hd : rows.flatten = (rows.take (i + 1)).flatten ++ (rows.drop (i + 1)).flatten := by rw [← List.flatten_append, List.take_append_drop]
    have h1 : (rows.take (i + 1)).flatten.length = (i + 1) * 3 := by rw [flat_len (fun r hr => len r (List.mem_of_mem_take hr)), List.length_take, Nat.min_eq_left (by omega)]
    have h2 : (rows.drop (i + 1)).flatten.length = (rows.length - (i + 1)) * 3 := by rw [flat_len (fun r hr => len r (List.mem_of_mem_drop hr)), List.length_drop]
    rw [hd, Nat.zero_add, List.append_assoc, ← h1, List.drop_left, ← h2, List.take_left]
  have htake : (rows.flatten ++ sp).take (0 + i * 3) = (rows.take i).flatten := by
    have hd : rows.flatten = (rows.take i).flatten ++ (rows.drop i).flatten := by rw [← List.flatten_append, List.take_append_drop]
    have h1 : (rows.take i).flatten.length = i * 3 := by rw [flat_len (fun r hr => len r (List.mem_of_mem_take hr)), List.length_take, Nat.min_eq_left (by omega)]
    rw [hd, Nat.zero_add, List.append_assoc, ← h1, List.take_left]
  have hTl : (rows.drop (i + 1)).flatten.length = (rows.length - (i + 1)) * 3 := by rw [flat_len (fun r hr => len r (List.mem_of_mem_drop hr)), List.length_drop]
  have hErase : (rows.eraseIdx i).flatten = (rows.take i).flatten ++ (rows.drop (i + 1)).flatten := by rw [List.eraseIdx_eq_take_drop_succ, List.flatten_append]
  have hEl : (rows.eraseIdx i).flatten.length = (rows.length - 1) * 3 := by
    rw [flat_len (fun r hr => len r (List.mem_of_mem_eraseIdx hr)), List.length_eraseIdx, if_pos hi]
  obtain ⟨X, hX, hXl⟩ : ∃ X, X = (rows.flatten ++ sp).drop ((rows.length - 1) * 3) ∧ 3 ≤ X.length := ⟨_, rfl, by rw [List.length_drop, List.length_append, hl]; omega⟩
  have hmove : splice (rows.flatten ++ sp) (0 + i * 3) (rows.drop (i + 1)).flatten = (rows.eraseIdx i).flatten ++ X := by
    unfold splice
    rw [htake, hTl, hErase, hX]
    congr 2; omega
  -- what stands there behind the append
  obtain ⟨h6, hh6, he⟩ : ∃ h6 : AHeap, h6 b = some ⟨(rows.eraseIdx i).flatten ++ X, 3, true⟩ ∧ (∀ j, j ≠ b → h6 j = h j) ∧ ∃ q e5, srcS h (some (b, 0 + (i + 1) * 3)) (rows.length - (i + 1)) 3 = some q ∧ appD h (some (b, 0)) i (some K) 3 40 (nx + 19) q = some e5 ∧ e5.a = some (b, 0) ∧ e5.n = rows.length - 1 ∧ e5.c = some K ∧ h.puts e5.sets = h6 := by
    by_cases ce : rows.length - (i + 1) = 0
    · refine ⟨h, ?_, fun _ _ => rfl, (0, [], []), ⟨some (b, 0), i, some K, [], []⟩, by simp [srcS, ce], by simp [appD], rfl, by simp only; omega, rfl, rfl⟩
      rw [b2, ← hmove]
      have hT0 : rows.drop (i + 1) = [] := List.drop_eq_nil_of_le (by omega)
      rw [hT0]
      simp [splice]
    · refine ⟨h.put b (some ⟨(rows.eraseIdx i).flatten ++ X, 3, true⟩), put_same _ _ _, fun j hj => put_ne hj, (rows.length - (i + 1), (rows.drop (i + 1)).flatten, [b]), ⟨some (b, 0), i + (rows.length - (i + 1)), some K, [(b, some ⟨(rows.eraseIdx i).flatten ++ X, 3, true⟩)], [b, b]⟩, ?_, ?_, rfl, by simp only; omega, rfl, rfl⟩
      · have c1 : ((3 : Nat) == 3 && decide (0 + (i + 1) * 3 + (rows.length - (i + 1)) * 3 ≤ (rows.flatten ++ sp).length)) = true := by rw [Bool.and_eq_true]; exact ⟨rfl, decide_eq_true (by rw [List.length_append, hl]; omega)⟩
        simp only [srcS]
        rw [if_neg ce, b2]
        simp only [Option.bind_some]
        rw [if_pos c1, hT]
      · have c1 : ((3 : Nat) == 3 && decide (0 + i * 3 ≤ (rows.flatten ++ sp).length)) = true := by rw [Bool.and_eq_true]; exact ⟨rfl, decide_eq_true (by rw [List.length_append, hl]; omega)⟩
        unfold appD
        rw [if_neg ce, if_pos (growOk_of (by simp only; omega) (by omega))]
        simp only [b2, Option.bind_some]
        rw [if_pos c1, capLt_no hK (by omega), if_neg (by simp), if_pos trivial, capIn_yes hK (by omega) (by rw [List.length_append, hl]; omega), if_pos rfl, hmove]
  obtain ⟨hoth, q, e5, g1, g2, g3, g4, g5, g6⟩ := he
  rw [g1]
  simp only [mst_]
  rw [g2]
  simp only [mst_]
  rw [g3, g4, g5, g6]
  have k4 : cutA h6 (some (b, 0)) (rows.length - 1) (some K) 3 (some (.int .i64 ((rows.length - 1 : Nat) : Int))) (some (.int .i64 ((rows.length : Nat) : Int))) none = some (some (b, 0 + (rows.length - 1) * 3), rows.length - (rows.length - 1), some (capCut (rows.length - 1) (some K) (rows.length - 1))) := by
    have hes6 : esIs h6 (some (b, 0)) 3 = true := by simp [esIs, hh6]
    unfold cutA boundsD
    simp only [bound_some (show rows.length ≤ topOf (some (b, 0)) (rows.length - 1) (some K) from Nat.le_trans hK (Nat.le_max_right _ _)), Option.bind_some, bound_some (show rows.length - 1 ≤ rows.length by omega), hes6, Bool.or_true, if_true, shiftAddr, Option.map_some]
  rw [k4]
  simp only [mst_]
  have hz : cleD h6 (some (b, 0 + (rows.length - 1) * 3)) (rows.length - (rows.length - 1)) 3 [(.int .i64 0), (.int .i64 0), (.slice none 0 none)] = some ([(b, some ⟨(rows.eraseIdx i).flatten ++ (rowZ ++ X.drop 3), 3, true⟩)], [b]) := by
    unfold cleD
    rw [if_neg (by omega)]
    simp only [Option.bind_some, hh6, Bool.true_and]
    rw [if_pos (decide_eq_true (by rw [List.length_append, hEl]; omega))]
    have e1 : rows.length - (rows.length - 1) = 1 := by omega
    rw [e1]
    have e2 : madeA [(.int .i64 0), (.int .i64 0), (.slice none 0 none)] (1 * 3) = rowZ := rfl
    rw [e2]
    have e3 : splice ((rows.eraseIdx i).flatten ++ X) (0 + (rows.length - 1) * 3) rowZ = (rows.eraseIdx i).flatten ++ (rowZ ++ X.drop 3) := by
      unfold splice
      rw [Nat.zero_add, ← hEl, List.take_left, List.append_assoc, show rowZ.length = 3 from rfl, List.drop_append, List.drop_of_length_le (by omega), List.nil_append]
      congr 3; omega
    rw [e3]
  rw [hz]
  simp only [mst_]
  refine ⟨_, some K, rfl, ⟨fun r hr => len r (List.mem_of_mem_eraseIdx hr), fun k hk => ?_, .inr ⟨b, rowZ ++ X.drop 3, rfl, b1, by simp only [puts_cons, puts_nil, put_same]⟩⟩, fun j hj => ?_⟩
  · obtain rfl := Option.some.inj hk
    rw [List.length_eraseIdx, if_pos hi]; omega
  · have hjb : j ≠ b := fun e => hj ⟨0, by rw [e]⟩
    simp only [puts_cons, puts_nil]
    rw [put_ne hjb]; exact hoth j hjb

end Go.Proofs.Ytaikceooeahfeaa.T
