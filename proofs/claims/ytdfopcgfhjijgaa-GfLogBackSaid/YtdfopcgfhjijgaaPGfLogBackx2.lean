-- PRINTED BY print.sh 35421559b90ae4d0a3588c463048766b98c2df88dd9212a6774a882060cdf62d: not written by this session
import Derived.Test.YtdfopcgfhjijgaaPGfLogBackx0
import Derived.Test.YtdfopcgfhjijgaaPGfLogBackx1
namespace Go.Proofs.Ytdfopcgfhjijgaa.PGfLogBack
open Go.RowKit Go.Proofs.YtdfopcgfhjijgaaW.PrintWords Go.Proofs.YtdfopcgfhjijgaaW.PrintLast Go.Proofs.YtdfopcgfhjijgaaW.PrintMore
attribute [local go_sem] max2_int min2_int max_two min_two max_three min_three max_four min_four   -- for this text's walks alone
set_option linter.unusedVariables false
set_option linter.unusedSimpArgs false

/-! ### quicksetkeep_GfLogBack: function 6 -/
def quicksetkeep_GfLogBack.j0 : Nat → Int → Int → Int → Int → Bool → Option (Bool)
  | 0, _, _, _, _, _ => none
  | k + 1, x5, x6, x7, x9, x52 => if x52 = true then (some false) else ((gf_Exp.f k x7).bind fun bt130 => ((quicksetkeep_mul.f k x5 x6).bind fun t132 => ((gf_Log.f k t132).bind fun bt133 => (if bt130.2 = 0 then (if bt133.2 = 0 then (if bt130.1 = x5 then (some (bt133.1 == (Int.tmod (wrap64 (x7 + x9)) 255))) else (some false)) else (some false)) else (some false)))))
def quicksetkeep_GfLogBack.f (k : Nat) (a0 : Int) (a1 : Int) : Option (Bool) := (quicksetkeep_Picked.f a0 255).bind fun t124 => ((quicksetkeep_Picked.f a1 255).bind fun t125 => ((gf_Log.f k (wrap64 (1 + t124))).bind fun bt126 => ((gf_Log.f k (wrap64 (1 + t125))).bind fun bt128 => (if bt126.2 = 0 then (if bt128.2 = 0 then (if bt126.1 < 0 then (quicksetkeep_GfLogBack.j0 k (wrap64 (1 + t124)) (wrap64 (1 + t125)) bt126.1 bt128.1 true) else (if bt126.1 > 254 then (quicksetkeep_GfLogBack.j0 k (wrap64 (1 + t124)) (wrap64 (1 + t125)) bt126.1 bt128.1 true) else (if bt128.1 < 0 then (quicksetkeep_GfLogBack.j0 k (wrap64 (1 + t124)) (wrap64 (1 + t125)) bt126.1 bt128.1 true) else (quicksetkeep_GfLogBack.j0 k (wrap64 (1 + t124)) (wrap64 (1 + t125)) bt126.1 bt128.1 (decide (bt128.1 > 254)))))) else (quicksetkeep_GfLogBack.j0 k (wrap64 (1 + t124)) (wrap64 (1 + t125)) bt126.1 bt128.1 true)) else (quicksetkeep_GfLogBack.j0 k (wrap64 (1 + t124)) (wrap64 (1 + t125)) bt126.1 bt128.1 true)))))
theorem quicksetkeep_GfLogBack.mono_l : ∀ k, (∀ y0 y1 y2 y3 y4, LeO (quicksetkeep_GfLogBack.j0 k y0 y1 y2 y3 y4) (quicksetkeep_GfLogBack.j0 (k + 1) y0 y1 y2 y3 y4))
  | 0 => fun _ _ _ _ _ r h => by simp [quicksetkeep_GfLogBack.j0] at h
  | k + 1 => by
    have ih0 := quicksetkeep_GfLogBack.mono_l k
    · intro y0 y1 y2 y3 y4
      unfold quicksetkeep_GfLogBack.j0
      repeat' first
      | (with_reducible exact ih0 _ _ _ _ _)
      | (with_reducible exact gf_Exp.mono _ _)
      | (with_reducible exact gf_Log.mono _ _)
      | (with_reducible exact quicksetkeep_mul.mono _ _ _)
      | (with_reducible exact LeO.refl _)
      | (with_reducible exact LeO.none _)
      | (with_reducible refine LeO.ite ?_ ?_)
      | (with_reducible refine LeO.bind ?_ (fun _ => ?_))
      | exact ih0 _ _ _ _ _
      | exact gf_Exp.mono _ _
      | exact gf_Log.mono _ _
      | exact quicksetkeep_mul.mono _ _ _
      | exact LeO.none _
      | refine LeO.ite ?_ ?_
      | refine LeO.bind ?_ (fun _ => ?_)
theorem quicksetkeep_GfLogBack.mono : ∀ a0 a1 k, LeO (quicksetkeep_GfLogBack.f k a0 a1) (quicksetkeep_GfLogBack.f (k + 1) a0 a1) := by
  intro a0 a1 k
  have ih0 := quicksetkeep_GfLogBack.mono_l k
  unfold quicksetkeep_GfLogBack.f
  repeat' first
      | (with_reducible exact ih0 _ _ _ _ _)
      | (with_reducible exact gf_Exp.mono _ _)
      | (with_reducible exact gf_Log.mono _ _)
      | (with_reducible exact quicksetkeep_mul.mono _ _ _)
      | (with_reducible exact LeO.refl _)
      | (with_reducible exact LeO.none _)
      | (with_reducible refine LeO.ite ?_ ?_)
      | (with_reducible refine LeO.bind ?_ (fun _ => ?_))
      | exact ih0 _ _ _ _ _
      | exact gf_Exp.mono _ _
      | exact gf_Log.mono _ _
      | exact quicksetkeep_mul.mono _ _ _
      | exact LeO.none _
      | refine LeO.ite ?_ ?_
      | refine LeO.bind ?_ (fun _ => ?_)
set_option maxHeartbeats 8000000 in
set_option maxRecDepth 100000 in
theorem quicksetkeep_GfLogBack.calls (k : Nat) (a0 : Int) (a1 : Int) (r : Bool) (w : World) (h : quicksetkeep_GfLogBack.f k a0 a1 = some r) :
    Calls Try.prog 6 #[.int .i64 a0, .int .i64 a1] w fun e w' => e = .returned (.bool r) ∧ Below w.heap.size w w' := by
  have HB := Aside0.mk (Below.refl w.heap.size w)
  have H : ((quicksetkeep_Picked.f a0 255).bind fun t124 => ((quicksetkeep_Picked.f a1 255).bind fun t125 => ((gf_Log.f k (wrap64 (1 + t124))).bind fun bt126 => ((gf_Log.f k (wrap64 (1 + t125))).bind fun bt128 => (if bt126.2 = 0 then (if bt128.2 = 0 then (if bt126.1 < 0 then (quicksetkeep_GfLogBack.j0 k (wrap64 (1 + t124)) (wrap64 (1 + t125)) bt126.1 bt128.1 true) else (if bt126.1 > 254 then (quicksetkeep_GfLogBack.j0 k (wrap64 (1 + t124)) (wrap64 (1 + t125)) bt126.1 bt128.1 true) else (if bt128.1 < 0 then (quicksetkeep_GfLogBack.j0 k (wrap64 (1 + t124)) (wrap64 (1 + t125)) bt126.1 bt128.1 true) else (quicksetkeep_GfLogBack.j0 k (wrap64 (1 + t124)) (wrap64 (1 + t125)) bt126.1 bt128.1 (decide (bt128.1 > 254)))))) else (quicksetkeep_GfLogBack.j0 k (wrap64 (1 + t124)) (wrap64 (1 + t125)) bt126.1 bt128.1 true)) else (quicksetkeep_GfLogBack.j0 k (wrap64 (1 + t124)) (wrap64 (1 + t125)) bt126.1 bt128.1 true)))))) = some r := h
  clear h
  replace H := Option.bind_eq_some_iff.mp H
  obtain ⟨t124, A30, H⟩ := H
  replace H : ((quicksetkeep_Picked.f a1 255).bind fun t125 => ((gf_Log.f k (wrap64 (1 + t124))).bind fun bt126 => ((gf_Log.f k (wrap64 (1 + t125))).bind fun bt128 => (if bt126.2 = 0 then (if bt128.2 = 0 then (if bt126.1 < 0 then (quicksetkeep_GfLogBack.j0 k (wrap64 (1 + t124)) (wrap64 (1 + t125)) bt126.1 bt128.1 true) else (if bt126.1 > 254 then (quicksetkeep_GfLogBack.j0 k (wrap64 (1 + t124)) (wrap64 (1 + t125)) bt126.1 bt128.1 true) else (if bt128.1 < 0 then (quicksetkeep_GfLogBack.j0 k (wrap64 (1 + t124)) (wrap64 (1 + t125)) bt126.1 bt128.1 true) else (quicksetkeep_GfLogBack.j0 k (wrap64 (1 + t124)) (wrap64 (1 + t125)) bt126.1 bt128.1 (decide (bt128.1 > 254)))))) else (quicksetkeep_GfLogBack.j0 k (wrap64 (1 + t124)) (wrap64 (1 + t125)) bt126.1 bt128.1 true)) else (quicksetkeep_GfLogBack.j0 k (wrap64 (1 + t124)) (wrap64 (1 + t125)) bt126.1 bt128.1 true))))) = some r := H
  have A3 := Aside0.mk A30
  clear A30
  replace H := Option.bind_eq_some_iff.mp H
  obtain ⟨t125, A40, H⟩ := H
  replace H : ((gf_Log.f k (wrap64 (1 + t124))).bind fun bt126 => ((gf_Log.f k (wrap64 (1 + t125))).bind fun bt128 => (if bt126.2 = 0 then (if bt128.2 = 0 then (if bt126.1 < 0 then (quicksetkeep_GfLogBack.j0 k (wrap64 (1 + t124)) (wrap64 (1 + t125)) bt126.1 bt128.1 true) else (if bt126.1 > 254 then (quicksetkeep_GfLogBack.j0 k (wrap64 (1 + t124)) (wrap64 (1 + t125)) bt126.1 bt128.1 true) else (if bt128.1 < 0 then (quicksetkeep_GfLogBack.j0 k (wrap64 (1 + t124)) (wrap64 (1 + t125)) bt126.1 bt128.1 true) else (quicksetkeep_GfLogBack.j0 k (wrap64 (1 + t124)) (wrap64 (1 + t125)) bt126.1 bt128.1 (decide (bt128.1 > 254)))))) else (quicksetkeep_GfLogBack.j0 k (wrap64 (1 + t124)) (wrap64 (1 + t125)) bt126.1 bt128.1 true)) else (quicksetkeep_GfLogBack.j0 k (wrap64 (1 + t124)) (wrap64 (1 + t125)) bt126.1 bt128.1 true)))) = some r := H
  have A4 := Aside0.mk A40
  clear A40
  replace H := Option.bind_eq_some_iff.mp H
  obtain ⟨⟨t126, t127⟩, A50, H⟩ := H
  replace H : ((gf_Log.f k (wrap64 (1 + t125))).bind fun bt128 => (if t127 = 0 then (if bt128.2 = 0 then (if t126 < 0 then (quicksetkeep_GfLogBack.j0 k (wrap64 (1 + t124)) (wrap64 (1 + t125)) t126 bt128.1 true) else (if t126 > 254 then (quicksetkeep_GfLogBack.j0 k (wrap64 (1 + t124)) (wrap64 (1 + t125)) t126 bt128.1 true) else (if bt128.1 < 0 then (quicksetkeep_GfLogBack.j0 k (wrap64 (1 + t124)) (wrap64 (1 + t125)) t126 bt128.1 true) else (quicksetkeep_GfLogBack.j0 k (wrap64 (1 + t124)) (wrap64 (1 + t125)) t126 bt128.1 (decide (bt128.1 > 254)))))) else (quicksetkeep_GfLogBack.j0 k (wrap64 (1 + t124)) (wrap64 (1 + t125)) t126 bt128.1 true)) else (quicksetkeep_GfLogBack.j0 k (wrap64 (1 + t124)) (wrap64 (1 + t125)) t126 bt128.1 true))) = some r := H
  have A5 := Aside0.mk A50
  clear A50
  replace H := Option.bind_eq_some_iff.mp H
  obtain ⟨⟨t128, t129⟩, A60, H⟩ := H
  replace H : (if t127 = 0 then (if t129 = 0 then (if t126 < 0 then (quicksetkeep_GfLogBack.j0 k (wrap64 (1 + t124)) (wrap64 (1 + t125)) t126 t128 true) else (if t126 > 254 then (quicksetkeep_GfLogBack.j0 k (wrap64 (1 + t124)) (wrap64 (1 + t125)) t126 t128 true) else (if t128 < 0 then (quicksetkeep_GfLogBack.j0 k (wrap64 (1 + t124)) (wrap64 (1 + t125)) t126 t128 true) else (quicksetkeep_GfLogBack.j0 k (wrap64 (1 + t124)) (wrap64 (1 + t125)) t126 t128 (decide (t128 > 254)))))) else (quicksetkeep_GfLogBack.j0 k (wrap64 (1 + t124)) (wrap64 (1 + t125)) t126 t128 true)) else (quicksetkeep_GfLogBack.j0 k (wrap64 (1 + t124)) (wrap64 (1 + t125)) t126 t128 true)) = some r := H
  have A6 := Aside0.mk A60
  clear A60
  have HC7 := Aside0.mk H
  clear H
  go_enter Try.func6, Try.ntmps6
  go_upto_region 5 with (first | ((with_reducible refine gate_callee (f := 15) rfl ?_); refine goesL_ (some 16) rfl rfl Try.func15 (by kernel_rfl) rfl #[.int .i64 a0, .int .i64 255] rfl (by (try simp only [List.map_toArray, List.map_cons, List.map_nil]); first | done | rfl | (simp only [List.length_drop, List.length_take]; rfl)) ?_; (with_reducible refine (quicksetkeep_Picked.calls a0 255 t124 _ A3.out).mono ?_); rintro e w' ⟨rfl, ⟨nd, rfl⟩⟩; refine ⟨_, rfl, ?_⟩) | ((with_reducible refine gate_callee (f := 15) rfl ?_); refine goesL_ (some 19) rfl rfl Try.func15 (by kernel_rfl) rfl #[.int .i64 a1, .int .i64 255] rfl (by (try simp only [List.map_toArray, List.map_cons, List.map_nil]); first | done | rfl | (simp only [List.length_drop, List.length_take]; rfl)) ?_; (with_reducible refine (quicksetkeep_Picked.calls a1 255 t125 _ A4.out).mono ?_); rintro e w' ⟨rfl, ⟨nd, rfl⟩⟩; refine ⟨_, rfl, ?_⟩) | ((with_reducible refine gate_callee (f := 22) rfl ?_); refine goesL_ (some 23) rfl rfl Try.func22 (by kernel_rfl) rfl #[.int .i64 (wrap64 (1 + t124))] rfl (by (try simp only [List.map_toArray, List.map_cons, List.map_nil]); first | done | rfl | (simp only [List.length_drop, List.length_take]; rfl)) ?_; (with_reducible refine (gf_Log.calls k (wrap64 (1 + t124)) t126 t127 _ A5.out).mono ?_); rintro e w8 ⟨rfl, hb⟩; refine ⟨_, rfl, ?_⟩; have n0_ := Aside0.mk (below_step (by repeat (first | (with_reducible first | exact HB.out | apply below_alloc | apply pw_below_drewN | apply below_drew1) | exact HB.out)) hb); clear HB; have HB := n0_; clear n0_; (try clear hb); (try clear hb2); (try clear hk); (try clear hi)) | ((with_reducible refine gate_callee (f := 22) rfl ?_); refine goesL_ (some 28) rfl rfl Try.func22 (by kernel_rfl) rfl #[.int .i64 (wrap64 (1 + t125))] rfl (by (try simp only [List.map_toArray, List.map_cons, List.map_nil]); first | done | rfl | (simp only [List.length_drop, List.length_take]; rfl)) ?_; (with_reducible refine (gf_Log.calls k (wrap64 (1 + t125)) t128 t129 _ A6.out).mono ?_); rintro e w9 ⟨rfl, hb⟩; refine ⟨_, rfl, ?_⟩; have n0_ := Aside0.mk (below_step (by repeat (first | (with_reducible first | exact HB.out | apply below_alloc | apply pw_below_drewN | apply below_drew1) | exact HB.out)) hb); clear HB; have HB := n0_; clear n0_; (try clear hb); (try clear hb2); (try clear hk); (try clear hi)))
  (try simp only [Act.put, List.setIfInBounds_toArray, List.set_cons_zero, List.set_cons_succ])
  go_cut [52] (fun v52 wc => ∃ (kq : Nat) (x52_6 : Bool), v52 = .bool x52_6 ∧ Aside0 (quicksetkeep_GfLogBack.j0 kq (wrap64 (1 + t124)) (wrap64 (1 + t125)) t126 t128 x52_6 = some r) ∧ Aside0 (kq ≤ k) ∧ Aside0 (Below w.heap.size w wc))
  case first =>
    have H := HC7.out
    clear HC7
    by_cases c10 : t127 = 0
    · rw [if_pos c10] at H
      have c10b0 : (t127 == 0) = true := beq_iff_eq.mpr c10
      have c10b1 : (t127 != 0) = false := bne_eq_false_iff_eq.mpr c10
      clear c10
      (first | rw [c10b0] | (simp only [i64_w, i32_w]; rw [c10b0]) | skip)
      by_cases c11 : t129 = 0
      · rw [if_pos c11] at H
        have c11b0 : (t129 == 0) = true := beq_iff_eq.mpr c11
        have c11b1 : (t129 != 0) = false := bne_eq_false_iff_eq.mpr c11
        clear c11
        by_cases c12 : t126 < 0
        · rw [if_pos c12] at H
          have c12b0 : decide (t126 < 0) = true := decide_eq_true c12
          clear c12
          have H' := Aside0.mk H
          clear H
          go_wp2
          go_meet
          case rel => exact ⟨_, (true), (by first | rfl | (simp; done) | (simp [*]; done)), H', ⟨by first | omega | exact Nat.le_refl _⟩, ⟨by repeat (first | (with_reducible first | exact HB.out | apply below_alloc | apply pw_below_drewN | apply below_drew1) | exact HB.out)⟩⟩
        · rw [if_neg c12] at H
          have c12b0 : decide (t126 < 0) = false := decide_eq_false c12
          clear c12
          by_cases c13 : t126 > 254
          · rw [if_pos c13] at H
            have c13b0 : decide (254 < t126) = true := decide_eq_true c13
            clear c13
            have H' := Aside0.mk H
            clear H
            go_wp2
            go_meet
            case rel => exact ⟨_, (true), (by first | rfl | (simp; done) | (simp [*]; done)), H', ⟨by first | omega | exact Nat.le_refl _⟩, ⟨by repeat (first | (with_reducible first | exact HB.out | apply below_alloc | apply pw_below_drewN | apply below_drew1) | exact HB.out)⟩⟩
          · rw [if_neg c13] at H
            have c13b0 : decide (254 < t126) = false := decide_eq_false c13
            clear c13
            by_cases c14 : t128 < 0
            · rw [if_pos c14] at H
              have c14b0 : decide (t128 < 0) = true := decide_eq_true c14
              clear c14
              have H' := Aside0.mk H
              clear H
              go_wp2
              go_meet
              case rel => exact ⟨_, (true), (by first | rfl | (simp; done) | (simp [*]; done)), H', ⟨by first | omega | exact Nat.le_refl _⟩, ⟨by repeat (first | (with_reducible first | exact HB.out | apply below_alloc | apply pw_below_drewN | apply below_drew1) | exact HB.out)⟩⟩
            · rw [if_neg c14] at H
              have c14b0 : decide (t128 < 0) = false := decide_eq_false c14
              clear c14
              have H' := Aside0.mk H
              clear H
              go_wp2
              go_meet
              case rel => exact ⟨_, (decide (t128 > 254)), (by first | rfl | (simp; done) | (simp [*]; done)), H', ⟨by first | omega | exact Nat.le_refl _⟩, ⟨by repeat (first | (with_reducible first | exact HB.out | apply below_alloc | apply pw_below_drewN | apply below_drew1) | exact HB.out)⟩⟩
      · rw [if_neg c11] at H
        have c11b0 : (t129 == 0) = false := beq_eq_false_iff_ne.mpr c11
        have c11b1 : (t129 != 0) = true := bne_iff_ne.mpr c11
        have H' := Aside0.mk H
        clear H
        go_wp2
        go_meet
        case rel => exact ⟨_, (true), (by first | rfl | (simp; done) | (simp [*]; done)), H', ⟨by first | omega | exact Nat.le_refl _⟩, ⟨by repeat (first | (with_reducible first | exact HB.out | apply below_alloc | apply pw_below_drewN | apply below_drew1) | exact HB.out)⟩⟩
    · rw [if_neg c10] at H
      have c10b0 : (t127 == 0) = false := beq_eq_false_iff_ne.mpr c10
      have c10b1 : (t127 != 0) = true := bne_iff_ne.mpr c10
      (first | rw [c10b0] | (simp only [i64_w, i32_w]; rw [c10b0]) | skip)
      have H' := Aside0.mk H
      clear H
      go_wp2
      go_meet
      case rel => exact ⟨_, (true), (by first | rfl | (simp; done) | (simp [*]; done)), H', ⟨by first | omega | exact Nat.le_refl _⟩, ⟨by repeat (first | (with_reducible first | exact HB.out | apply below_alloc | apply pw_below_drewN | apply below_drew1) | exact HB.out)⟩⟩
  case rest =>
    clear HC7
    try clear c1
    try clear c2
    try clear p2
    try clear c6
    try clear p6
    try clear c10
    try clear c10b0
    try clear c10b1
    try clear c11
    try clear c11b0
    try clear c11b1
    try clear c12
    try clear c12b0
    try clear c13
    try clear c13b0
    try clear c14
    try clear c14b0
    obtain ⟨kq, x52_6, rfl, HA, HJ6, HB⟩ := hcut
    cases kq with
    | zero => exact absurd HA.out (by simp [quicksetkeep_GfLogBack.j0])
    | succ kj6 =>
      have H := HA.out
      clear HA
      simp only [quicksetkeep_GfLogBack.j0] at H
      by_cases c15 : x52_6 = true
      · subst c15
        have H1 : (some false) = some r := by rw [if_pos rfl] at H; exact H
        clear H
        have H := H1
        clear H1
        obtain rfl := Option.some.inj H
        go_wp2
        go_ret
        exact ⟨by first | rfl | (simp [errW_none, errW_some] <;> rfl) | (simp [*, errW_none, errW_some] <;> rfl), by repeat (first | (with_reducible first | exact HB.out | apply below_alloc | apply pw_below_drewN | apply below_drew1) | exact HB.out)⟩
      · replace c15 := Bool.eq_false_iff.mpr c15
        subst c15
        have H1 : ((gf_Exp.f kj6 t126).bind fun bt130 => ((quicksetkeep_mul.f kj6 (wrap64 (1 + t124)) (wrap64 (1 + t125))).bind fun t132 => ((gf_Log.f kj6 t132).bind fun bt133 => (if bt130.2 = 0 then (if bt133.2 = 0 then (if bt130.1 = (wrap64 (1 + t124)) then (some (bt133.1 == (Int.tmod (wrap64 (t126 + t128)) 255))) else (some false)) else (some false)) else (some false))))) = some r := by rw [if_neg (show ¬ (false = true) by decide)] at H; exact H
        clear H
        have H := H1
        clear H1
        replace H := Option.bind_eq_some_iff.mp H
        obtain ⟨⟨t130, t131⟩, A160, H⟩ := H
        replace H : ((quicksetkeep_mul.f kj6 (wrap64 (1 + t124)) (wrap64 (1 + t125))).bind fun t132 => ((gf_Log.f kj6 t132).bind fun bt133 => (if t131 = 0 then (if bt133.2 = 0 then (if t130 = (wrap64 (1 + t124)) then (some (bt133.1 == (Int.tmod (wrap64 (t126 + t128)) 255))) else (some false)) else (some false)) else (some false)))) = some r := H
        have A16 := Aside0.mk A160
        clear A160
        replace H := Option.bind_eq_some_iff.mp H
        obtain ⟨t132, A170, H⟩ := H
        replace H : ((gf_Log.f kj6 t132).bind fun bt133 => (if t131 = 0 then (if bt133.2 = 0 then (if t130 = (wrap64 (1 + t124)) then (some (bt133.1 == (Int.tmod (wrap64 (t126 + t128)) 255))) else (some false)) else (some false)) else (some false))) = some r := H
        have A17 := Aside0.mk A170
        clear A170
        replace H := Option.bind_eq_some_iff.mp H
        obtain ⟨⟨t133, t134⟩, A180, H⟩ := H
        replace H : (if t131 = 0 then (if t134 = 0 then (if t130 = (wrap64 (1 + t124)) then (some (t133 == (Int.tmod (wrap64 (t126 + t128)) 255))) else (some false)) else (some false)) else (some false)) = some r := H
        have A18 := Aside0.mk A180
        clear A180
        by_cases c19 : t131 = 0
        · rw [if_pos c19] at H
          have c19b0 : (t131 == 0) = true := beq_iff_eq.mpr c19
          have c19b1 : (t131 != 0) = false := bne_eq_false_iff_eq.mpr c19
          clear c19
          by_cases c20 : t134 = 0
          · rw [if_pos c20] at H
            have c20b0 : (t134 == 0) = true := beq_iff_eq.mpr c20
            have c20b1 : (t134 != 0) = false := bne_eq_false_iff_eq.mpr c20
            clear c20
            by_cases c21 : t130 = (wrap64 (1 + t124))
            · rw [if_pos c21] at H
              have c21b0 : (t130 == (wrap64 (1 + t124))) = true := beq_iff_eq.mpr c21
              have c21b1 : (t130 != (wrap64 (1 + t124))) = false := bne_eq_false_iff_eq.mpr c21
              clear c21
              obtain rfl := Option.some.inj H
              go_wp2_with (first | ((with_reducible refine gate_callee (f := 19) rfl ?_); refine goesL_ (some 55) rfl rfl Try.func19 (by kernel_rfl) rfl #[.int .i64 t126] rfl (by (try simp only [List.map_toArray, List.map_cons, List.map_nil]); first | done | rfl | (simp only [List.length_drop, List.length_take]; rfl)) ?_; (with_reducible refine (gf_Exp.calls kj6 t126 t130 t131 _ A16.out).mono ?_); rintro e w22 ⟨rfl, hb⟩; refine ⟨_, rfl, ?_⟩; have n0_ := Aside0.mk (below_step (by repeat (first | (with_reducible first | exact HB.out | apply below_alloc | apply pw_below_drewN | apply below_drew1) | exact HB.out)) hb); clear HB; have HB := n0_; clear n0_; (try clear hb); (try clear hb2); (try clear hk); (try clear hi)) | ((with_reducible refine gate_callee (f := 16) rfl ?_); refine goesL_ (some 61) rfl rfl Try.func16 (by kernel_rfl) rfl #[.int .i64 (wrap64 (1 + t124)), .int .i64 (wrap64 (1 + t125))] rfl (by (try simp only [List.map_toArray, List.map_cons, List.map_nil]); first | done | rfl | (simp only [List.length_drop, List.length_take]; rfl)) ?_; (with_reducible refine (quicksetkeep_mul.calls kj6 (wrap64 (1 + t124)) (wrap64 (1 + t125)) t132 _ A17.out).mono ?_); rintro e w23 ⟨rfl, hb⟩; refine ⟨_, rfl, ?_⟩; have n0_ := Aside0.mk (below_step (by repeat (first | (with_reducible first | exact HB.out | apply below_alloc | apply pw_below_drewN | apply below_drew1) | exact HB.out)) hb); clear HB; have HB := n0_; clear n0_; (try clear hb); (try clear hb2); (try clear hk); (try clear hi)) | ((with_reducible refine gate_callee (f := 22) rfl ?_); refine goesL_ (some 62) rfl rfl Try.func22 (by kernel_rfl) rfl #[.int .i64 t132] rfl (by (try simp only [List.map_toArray, List.map_cons, List.map_nil]); first | done | rfl | (simp only [List.length_drop, List.length_take]; rfl)) ?_; (with_reducible refine (gf_Log.calls kj6 t132 t133 t134 _ A18.out).mono ?_); rintro e w24 ⟨rfl, hb⟩; refine ⟨_, rfl, ?_⟩; have n0_ := Aside0.mk (below_step (by repeat (first | (with_reducible first | exact HB.out | apply below_alloc | apply pw_below_drewN | apply below_drew1) | exact HB.out)) hb); clear HB; have HB := n0_; clear n0_; (try clear hb); (try clear hb2); (try clear hk); (try clear hi)))
              go_ret
              exact ⟨by first | rfl | (simp [errW_none, errW_some] <;> rfl) | (simp [*, errW_none, errW_some] <;> rfl), by repeat (first | (with_reducible first | exact HB.out | apply below_alloc | apply pw_below_drewN | apply below_drew1) | exact HB.out)⟩
            · rw [if_neg c21] at H
              have c21b0 : (t130 == (wrap64 (1 + t124))) = false := beq_eq_false_iff_ne.mpr c21
              have c21b1 : (t130 != (wrap64 (1 + t124))) = true := bne_iff_ne.mpr c21
              obtain rfl := Option.some.inj H
              go_wp2_with (first | ((with_reducible refine gate_callee (f := 19) rfl ?_); refine goesL_ (some 55) rfl rfl Try.func19 (by kernel_rfl) rfl #[.int .i64 t126] rfl (by (try simp only [List.map_toArray, List.map_cons, List.map_nil]); first | done | rfl | (simp only [List.length_drop, List.length_take]; rfl)) ?_; (with_reducible refine (gf_Exp.calls kj6 t126 t130 t131 _ A16.out).mono ?_); rintro e w25 ⟨rfl, hb⟩; refine ⟨_, rfl, ?_⟩; have n0_ := Aside0.mk (below_step (by repeat (first | (with_reducible first | exact HB.out | apply below_alloc | apply pw_below_drewN | apply below_drew1) | exact HB.out)) hb); clear HB; have HB := n0_; clear n0_; (try clear hb); (try clear hb2); (try clear hk); (try clear hi)) | ((with_reducible refine gate_callee (f := 16) rfl ?_); refine goesL_ (some 61) rfl rfl Try.func16 (by kernel_rfl) rfl #[.int .i64 (wrap64 (1 + t124)), .int .i64 (wrap64 (1 + t125))] rfl (by (try simp only [List.map_toArray, List.map_cons, List.map_nil]); first | done | rfl | (simp only [List.length_drop, List.length_take]; rfl)) ?_; (with_reducible refine (quicksetkeep_mul.calls kj6 (wrap64 (1 + t124)) (wrap64 (1 + t125)) t132 _ A17.out).mono ?_); rintro e w26 ⟨rfl, hb⟩; refine ⟨_, rfl, ?_⟩; have n0_ := Aside0.mk (below_step (by repeat (first | (with_reducible first | exact HB.out | apply below_alloc | apply pw_below_drewN | apply below_drew1) | exact HB.out)) hb); clear HB; have HB := n0_; clear n0_; (try clear hb); (try clear hb2); (try clear hk); (try clear hi)) | ((with_reducible refine gate_callee (f := 22) rfl ?_); refine goesL_ (some 62) rfl rfl Try.func22 (by kernel_rfl) rfl #[.int .i64 t132] rfl (by (try simp only [List.map_toArray, List.map_cons, List.map_nil]); first | done | rfl | (simp only [List.length_drop, List.length_take]; rfl)) ?_; (with_reducible refine (gf_Log.calls kj6 t132 t133 t134 _ A18.out).mono ?_); rintro e w27 ⟨rfl, hb⟩; refine ⟨_, rfl, ?_⟩; have n0_ := Aside0.mk (below_step (by repeat (first | (with_reducible first | exact HB.out | apply below_alloc | apply pw_below_drewN | apply below_drew1) | exact HB.out)) hb); clear HB; have HB := n0_; clear n0_; (try clear hb); (try clear hb2); (try clear hk); (try clear hi)))
              go_ret
              exact ⟨by first | rfl | (simp [errW_none, errW_some] <;> rfl) | (simp [*, errW_none, errW_some] <;> rfl), by repeat (first | (with_reducible first | exact HB.out | apply below_alloc | apply pw_below_drewN | apply below_drew1) | exact HB.out)⟩
          · rw [if_neg c20] at H
            have c20b0 : (t134 == 0) = false := beq_eq_false_iff_ne.mpr c20
            have c20b1 : (t134 != 0) = true := bne_iff_ne.mpr c20
            obtain rfl := Option.some.inj H
            go_wp2_with (first | ((with_reducible refine gate_callee (f := 19) rfl ?_); refine goesL_ (some 55) rfl rfl Try.func19 (by kernel_rfl) rfl #[.int .i64 t126] rfl (by (try simp only [List.map_toArray, List.map_cons, List.map_nil]); first | done | rfl | (simp only [List.length_drop, List.length_take]; rfl)) ?_; (with_reducible refine (gf_Exp.calls kj6 t126 t130 t131 _ A16.out).mono ?_); rintro e w28 ⟨rfl, hb⟩; refine ⟨_, rfl, ?_⟩; have n0_ := Aside0.mk (below_step (by repeat (first | (with_reducible first | exact HB.out | apply below_alloc | apply pw_below_drewN | apply below_drew1) | exact HB.out)) hb); clear HB; have HB := n0_; clear n0_; (try clear hb); (try clear hb2); (try clear hk); (try clear hi)) | ((with_reducible refine gate_callee (f := 16) rfl ?_); refine goesL_ (some 61) rfl rfl Try.func16 (by kernel_rfl) rfl #[.int .i64 (wrap64 (1 + t124)), .int .i64 (wrap64 (1 + t125))] rfl (by (try simp only [List.map_toArray, List.map_cons, List.map_nil]); first | done | rfl | (simp only [List.length_drop, List.length_take]; rfl)) ?_; (with_reducible refine (quicksetkeep_mul.calls kj6 (wrap64 (1 + t124)) (wrap64 (1 + t125)) t132 _ A17.out).mono ?_); rintro e w29 ⟨rfl, hb⟩; refine ⟨_, rfl, ?_⟩; have n0_ := Aside0.mk (below_step (by repeat (first | (with_reducible first | exact HB.out | apply below_alloc | apply pw_below_drewN | apply below_drew1) | exact HB.out)) hb); clear HB; have HB := n0_; clear n0_; (try clear hb); (try clear hb2); (try clear hk); (try clear hi)) | ((with_reducible refine gate_callee (f := 22) rfl ?_); refine goesL_ (some 62) rfl rfl Try.func22 (by kernel_rfl) rfl #[.int .i64 t132] rfl (by (try simp only [List.map_toArray, List.map_cons, List.map_nil]); first | done | rfl | (simp only [List.length_drop, List.length_take]; rfl)) ?_; (with_reducible refine (gf_Log.calls kj6 t132 t133 t134 _ A18.out).mono ?_); rintro e w30 ⟨rfl, hb⟩; refine ⟨_, rfl, ?_⟩; have n0_ := Aside0.mk (below_step (by repeat (first | (with_reducible first | exact HB.out | apply below_alloc | apply pw_below_drewN | apply below_drew1) | exact HB.out)) hb); clear HB; have HB := n0_; clear n0_; (try clear hb); (try clear hb2); (try clear hk); (try clear hi)))
            go_ret
            exact ⟨by first | rfl | (simp [errW_none, errW_some] <;> rfl) | (simp [*, errW_none, errW_some] <;> rfl), by repeat (first | (with_reducible first | exact HB.out | apply below_alloc | apply pw_below_drewN | apply below_drew1) | exact HB.out)⟩
        · rw [if_neg c19] at H
          have c19b0 : (t131 == 0) = false := beq_eq_false_iff_ne.mpr c19
          have c19b1 : (t131 != 0) = true := bne_iff_ne.mpr c19
          obtain rfl := Option.some.inj H
          go_wp2_with (first | ((with_reducible refine gate_callee (f := 19) rfl ?_); refine goesL_ (some 55) rfl rfl Try.func19 (by kernel_rfl) rfl #[.int .i64 t126] rfl (by (try simp only [List.map_toArray, List.map_cons, List.map_nil]); first | done | rfl | (simp only [List.length_drop, List.length_take]; rfl)) ?_; (with_reducible refine (gf_Exp.calls kj6 t126 t130 t131 _ A16.out).mono ?_); rintro e w31 ⟨rfl, hb⟩; refine ⟨_, rfl, ?_⟩; have n0_ := Aside0.mk (below_step (by repeat (first | (with_reducible first | exact HB.out | apply below_alloc | apply pw_below_drewN | apply below_drew1) | exact HB.out)) hb); clear HB; have HB := n0_; clear n0_; (try clear hb); (try clear hb2); (try clear hk); (try clear hi)) | ((with_reducible refine gate_callee (f := 16) rfl ?_); refine goesL_ (some 61) rfl rfl Try.func16 (by kernel_rfl) rfl #[.int .i64 (wrap64 (1 + t124)), .int .i64 (wrap64 (1 + t125))] rfl (by (try simp only [List.map_toArray, List.map_cons, List.map_nil]); first | done | rfl | (simp only [List.length_drop, List.length_take]; rfl)) ?_; (with_reducible refine (quicksetkeep_mul.calls kj6 (wrap64 (1 + t124)) (wrap64 (1 + t125)) t132 _ A17.out).mono ?_); rintro e w32 ⟨rfl, hb⟩; refine ⟨_, rfl, ?_⟩; have n0_ := Aside0.mk (below_step (by repeat (first | (with_reducible first | exact HB.out | apply below_alloc | apply pw_below_drewN | apply below_drew1) | exact HB.out)) hb); clear HB; have HB := n0_; clear n0_; (try clear hb); (try clear hb2); (try clear hk); (try clear hi)) | ((with_reducible refine gate_callee (f := 22) rfl ?_); refine goesL_ (some 62) rfl rfl Try.func22 (by kernel_rfl) rfl #[.int .i64 t132] rfl (by (try simp only [List.map_toArray, List.map_cons, List.map_nil]); first | done | rfl | (simp only [List.length_drop, List.length_take]; rfl)) ?_; (with_reducible refine (gf_Log.calls kj6 t132 t133 t134 _ A18.out).mono ?_); rintro e w33 ⟨rfl, hb⟩; refine ⟨_, rfl, ?_⟩; have n0_ := Aside0.mk (below_step (by repeat (first | (with_reducible first | exact HB.out | apply below_alloc | apply pw_below_drewN | apply below_drew1) | exact HB.out)) hb); clear HB; have HB := n0_; clear n0_; (try clear hb); (try clear hb2); (try clear hk); (try clear hi)))
          go_ret
          exact ⟨by first | rfl | (simp [errW_none, errW_some] <;> rfl) | (simp [*, errW_none, errW_some] <;> rfl), by repeat (first | (with_reducible first | exact HB.out | apply below_alloc | apply pw_below_drewN | apply below_drew1) | exact HB.out)⟩

/-- THE ONE PURE STATEMENT of quicksetkeep_GfLogBack: yours. -/
def quicksetkeep_GfLogBack.Pure : Prop := ∀ (a0 : Int) (a1 : Int), (Lit.int .i64 a0).wf = true → (Lit.int .i64 a1).wf = true → ∃ k, quicksetkeep_GfLogBack.f k a0 a1 = some true
theorem quicksetkeep_GfLogBack.walk (P : quicksetkeep_GfLogBack.Pure) (a0 : Int) (a1 : Int) (w : World) (w0 : (Lit.int .i64 a0).wf = true) (w1 : (Lit.int .i64 a1).wf = true) :
    Calls Try.prog 6 #[.int .i64 a0, .int .i64 a1] w fun e w' => e = .returned (.bool true) ∧ Below w.heap.size w w' := by
  obtain ⟨k, h⟩ := P a0 a1 w0 w1
  refine (quicksetkeep_GfLogBack.calls k a0 a1 true w h).mono ?_
  rintro e w' ⟨rfl, hd⟩
  exact ⟨rfl, hd⟩

end Go.Proofs.Ytdfopcgfhjijgaa.PGfLogBack
