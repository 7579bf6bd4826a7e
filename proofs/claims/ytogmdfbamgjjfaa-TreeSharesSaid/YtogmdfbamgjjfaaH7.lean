/- Trees: resized. -/
import Derived.Test.YtogmdfbamgjjfaaH6
set_option linter.unusedVariables false
set_option linter.unusedSimpArgs false
namespace Go.Proofs.Ytogmdfbamgjjfaa.T
open Go Go.RowKit Go.Proofs

/-- d levels down, at the first kid. -/
def dn : Nat → Tr → Tr
  | 0, t => t
  | d + 1, t => dn d (t.kids 0)
theorem dn_nil : ∀ d, dn d .nil = .nil
  | 0 => rfl
  | d + 1 => by simp only [dn]; exact dn_nil d
def rz (now s0 s : Nat) (t : Tr) (m : Nat) : Tr × Nat :=
  match (rsN now (lev s - lev s0) (dn (lev s0 - lev s) (ct now s (lev s0) 0 t m).1) (ct now s (lev s0) 0 t m).2).1 with
  | .nil => if 0 < s then (.nd ((rsN now (lev s - lev s0) (dn (lev s0 - lev s) (ct now s (lev s0) 0 t m).1) (ct now s (lev s0) 0 t m).2).2 + 1) now (fun _ => .nil) (fun _ => 0), (rsN now (lev s - lev s0) (dn (lev s0 - lev s) (ct now s (lev s0) 0 t m).1) (ct now s (lev s0) 0 t m).2).2 + 1) else (.nil, (rsN now (lev s - lev s0) (dn (lev s0 - lev s) (ct now s (lev s0) 0 t m).1) (ct now s (lev s0) 0 t m).2).2)
  | .nd _ _ _ _ => rsN now (lev s - lev s0) (dn (lev s0 - lev s) (ct now s (lev s0) 0 t m).1) (ct now s (lev s0) 0 t m).2
theorem rz_le (now s0 s : Nat) (t : Tr) (m : Nat) : m ≤ (rz now s0 s t m).2 ∧ (rz now s0 s t m).2 ≤ m + 1300 := by
  have a := ct_le now s (lev s0) 0 t m
  have b := rsN_le now (lev s - lev s0) (dn (lev s0 - lev s) (ct now s (lev s0) 0 t m).1) (ct now s (lev s0) 0 t m).2
  have c := lev_le s
  have d := lev_le s0
  have e : 6 ^ (lev s0 + 1) ≤ 6 ^ 4 := Nat.pow_le_pow_right (by omega) (by omega)
  unfold rz
  split
  · split <;> simp only <;> omega
  · omega

theorem dn_loop {A : Nat → Prop} {F : Nat} {x6 : Option (Nat × Nat)} {s L : Nat} {Y : YldF} {f g : Nat} (L3 : L ≤ 3) (d : Nat) : ∀ (lf lv : Nat) (p : Option (Nat × Nat)) (t : Tr) (h : AHeap) (nx : Nat), lv = L + d → lv ≤ 3 → d < lf → Kd A (lv + 1) h p t →
    ∃ p' nx', nx ≤ nx' ∧ F26_L1 (callP Try.prog keepT f) Y g lf (some (F, 0)) (s : Int) x6 (L : Int) p h nx = F26_J3 (callP Try.prog keepT f) Y g (some (F, 0)) (s : Int) x6 (L : Int) p' h nx' ∧ Kd A (L + 1) h p' (dn d t) := by
  induction d with
  | zero =>
    intro lf lv p t h nx e l3 hl kd
    obtain ⟨lf, rfl⟩ : ∃ m, lf = m + 1 := ⟨lf - 1, by omega⟩
    obtain rfl : lv = L := by omega
    rw [F26_L1_eq]
    have kd0 := kd
    rcases kd with ⟨rfl, rfl⟩ | ⟨id, bi, k, ds, b, q, rfl, rfl, hb, hv, hk⟩
    · rw [if_neg (by simp)]
      exact ⟨none, nx + 10, by omega, rfl, kd0⟩
    · rw [if_pos (by simp)]
      simp only [mst_]
      rw [Nat.zero_add, ld_at (show h b = some ⟨cellsN id bi lv q ds, 1, true⟩ from hv) (v := .int .i64 (lv : Int)) rfl]
      simp only [mst_]
      rw [if_neg (by rw [decide_eq_true_eq]; omega)]
      exact ⟨_, nx + 10, by omega, rfl, kd0⟩
  | succ d ih =>
    intro lf lv p t h nx e l3 hl kd
    obtain ⟨lf, rfl⟩ : ∃ m, lf = m + 1 := ⟨lf - 1, by omega⟩
    obtain ⟨lv, rfl⟩ : ∃ m, lv = m + 1 := ⟨lv - 1, by omega⟩
    rw [F26_L1_eq]
    rcases kd with ⟨rfl, rfl⟩ | ⟨id, bi, k, ds, b, q, rfl, rfl, hb, hv, hk⟩
    · rw [if_neg (by simp)]
      exact ⟨none, nx + 10, by omega, rfl, by rw [dn_nil]; exact Kd.nil _ _ _⟩
    · rw [if_pos (by simp)]
      simp only [mst_]
      rw [Nat.zero_add, ld_at (show h b = some ⟨cellsN id bi (lv + 1) q ds, 1, true⟩ from hv) (v := .int .i64 ((lv + 1 : Nat) : Int)) rfl]
      simp only [mst_]
      rw [if_pos (decide_eq_true (by omega)), F26_J2_eq]
      simp only [mst_]
      rw [if_pos ⟨by omega, by omega⟩, show 0 + 3 + Int.toNat 0 * 1 = 3 from rfl, ld_at (show h b = some ⟨cellsN id bi (lv + 1) q ds, 1, true⟩ from hv) (v := .ptr (q 0)) rfl]
      simp only [mst_]
      obtain ⟨p', nx', l1, r1, r2⟩ := ih lf lv (q 0) (k 0) h (nx + 10 + 6) (by omega) (by omega) (by omega) (hk 0 (by omega))
      exact ⟨p', nx', by omega, r1, r2⟩

theorem low_loop {A : Nat → Prop} {F : Nat} {x6 : Option (Nat × Nat)} {s L : Nat} {Y : YldF} {f g : Nat} {lf lv : Nat} {p : Option (Nat × Nat)} {t : Tr} {h : AHeap} (nx : Nat) (hl : lv ≤ L) (kd : Kd A (lv + 1) h p t) :
    F26_L1 (callP Try.prog keepT f) Y g (lf + 1) (some (F, 0)) (s : Int) x6 (L : Int) p h nx = F26_J3 (callP Try.prog keepT f) Y g (some (F, 0)) (s : Int) x6 (L : Int) p h (nx + 10) := by
  rw [F26_L1_eq]
  rcases kd with ⟨rfl, rfl⟩ | ⟨id, bi, k, ds, b, q, rfl, rfl, hb, hv, hk⟩
  · rw [if_neg (by simp)]
  · rw [if_pos (by simp)]
    simp only [mst_]
    rw [Nat.zero_add, ld_at (show h b = some ⟨cellsN id bi lv q ds, 1, true⟩ from hv) (v := .int .i64 (lv : Int)) rfl]
    simp only [mst_]
    rw [if_neg (by rw [decide_eq_true_eq]; omega)]

theorem j4_spec {f g v6 : Nat} {Y : YldF} {s : Nat} {p : Option (Nat × Nat)} {h : AHeap} {nx : Nat} {cs : List AV} (h6 : h v6 = some ⟨cs, 2, true⟩) (hc : cs.length = 2) :
    F26_J4 (callP Try.prog keepT f) Y g (s : Int) (some (v6, 0)) p h nx = some (.agg [.ptr p, .int .i64 (s : Int)], h.put v6 (some ⟨[.ptr p, .int .i64 (s : Int)], 2, true⟩), nx + 4) := by
  rw [F26_J4_eq]
  simp only [mst_]
  rw [st_all h6 (by simp) hc (by simp [allOne, AV.one])]
  rw [ldr_all (put_same _ _ _) (by simp)]
  simp only [mst_]

theorem resized_spec {A : Nat → Prop} {now F : Nat} {va : Option (Nat × Nat)} {vc : Bool} {f : Nat} (hf : 30 ≤ f) (Y : YldF) {h : AHeap} {nx : Nat} (hA : ∀ x, A x → x < nx ∧ x ≠ F) (hFn : F < nx) {s0 s : Nat} (hs0 : s0 ≤ 4096) (hs : s ≤ 4096) {p : Option (Nat × Nat)} {t : Tr} {m : Nat} (kd : Kd A (lev s0 + 1) h p t) (hF : FrB h F va now vc m) (hm : m + 1300 ≤ 1000000) :
    ∃ p' h' nx', callP Try.prog keepT f Y 26 [.ptr (some (F, 0)), .agg [.ptr p, .int .i64 (s0 : Int)], .int .i64 (s : Int)] h nx = some (.agg [.ptr p', .int .i64 (s : Int)], h', nx') ∧ Frm (fun i => i = F) h nx h' nx' ∧ FrB h' F va now vc (rz now s0 s t m).2 ∧ Kd (fun x => A x ∨ nx ≤ x ∧ x < nx') (lev s + 1) h' p' (rz now s0 s t m).1 := by
  obtain ⟨f, rfl⟩ : ∃ m, f = m + 1 := ⟨f - 1, by omega⟩
  have c3 := lev_le s
  have d3 := lev_le s0
  have e6 : 6 ^ (lev s0 + 1) ≤ 6 ^ 4 := Nat.pow_le_pow_right (by omega) (by omega)
  have lF : F < nx := hFn
  rw [F26_eq]
  dsimp only
  generalize hh1 : (h.put nx _).put (nx + 1) _ = h1
  have x1 : Frm (fun i => i = F) h nx h1 (nx + 5) := ⟨by omega, fun i hi _ => by rw [← hh1, put_ne (by omega), put_ne (by omega)]⟩
  have hF1 : FrB h1 F va now vc m := by unfold FrB; rw [← hh1, put_ne (by omega), put_ne (by omega)]; exact hF
  have e1 : h1 nx = some ⟨[.ptr p, .int .i64 (s0 : Int)], 2, true⟩ := by rw [← hh1, put_ne (by omega), put_same]
  have e2 : h1 (nx + 1) = some ⟨[.ptr none, .int .i64 0], 2, true⟩ := by rw [← hh1, put_same]
  obtain ⟨n1, l1, g1⟩ := lev_spec (f := f) (by omega) Y hs h1 (nx + 5)
  rw [g1]
  simp only [mst_]
  rw [ld_at e1 (v := .ptr p) rfl]
  simp only [mst_]
  have hr := room3_le (l := lev s0) (by omega)
  obtain ⟨p2, h2, n2, g2, g3, g4, g5⟩ := cs_all (A := A) (now := now) (n0 := nx) (F := F) (va := va) (vc := vc) (e := s) (Y := Y) hA hFn (by omega) (lev s0) f (by omega) (by omega) p t m 0 h1 (n1 + 6) (kd.go (fun _ q => q) (fun x hx => x1.2 x (hA x hx).1 (hA x hx).2)) (by omega) (by omega) hF1 (by omega)
  rw [show ((0 : Nat) : Int) = 0 from rfl] at g2
  rw [g2]
  simp only [mst_]
  have l2 := g3.1
  have a := ct_le now s (lev s0) 0 t m
  have e2' : h2 (nx + 1) = some ⟨[.ptr none, .int .i64 0], 2, true⟩ := (g3.2 _ (by omega) (by omega)).trans e2
  -- the walk down
  have down : ∃ p3 n3, n2 ≤ n3 ∧ F26_L1 (callP Try.prog keepT f) Y f f (some (F, 0)) (s : Int) (some (nx + 1, 0)) (lev s : Int) p2 h2 n2 = F26_J3 (callP Try.prog keepT f) Y f (some (F, 0)) (s : Int) (some (nx + 1, 0)) (lev s : Int) p3 h2 n3 ∧ Kd (fun x => A x ∨ n1 + 6 ≤ x ∧ x < n2) (min (lev s0) (lev s) + 1) h2 p3 (dn (lev s0 - lev s) (ct now s (lev s0) 0 t m).1) := by
    by_cases c : lev s0 ≤ lev s
    · refine ⟨p2, n2 + 10, by omega, ?_, ?_⟩
      · have := low_loop (F := F) (x6 := some (nx + 1, 0)) (s := s) (Y := Y) (f := f) (g := f) (lf := f - 1) n2 c g5
        rw [show f - 1 + 1 = f by omega] at this
        exact this
      · rw [show lev s0 - lev s = 0 by omega, show min (lev s0) (lev s) = lev s0 by omega]; exact g5
    · obtain ⟨p3, n3, q1, q2, q3⟩ := dn_loop (F := F) (x6 := some (nx + 1, 0)) (s := s) (Y := Y) (f := f) (g := f) c3 (lev s0 - lev s) f (lev s0) p2 _ h2 n2 (by omega) (by omega) (by omega) g5
      exact ⟨p3, n3, q1, q2, by rw [show min (lev s0) (lev s) = lev s by omega]; exact q3⟩
  obtain ⟨p3, n3, l3, q2, kd3⟩ := down
  rw [q2, F26_J3_eq]
  have hA3 : ∀ x, (A x ∨ n1 + 6 ≤ x ∧ x < n2) → x < n3 + 7 ∧ x ≠ F := fun x hx => by
    rcases hx with hx | hx
    · have := hA x hx; omega
    · omega
  obtain ⟨p4, h4, n4, r1, r2, r3, r4, r5⟩ := raised_spec (O := fun _ _ => True) (f := f) (by omega) Y (nx := n3 + 7) hA3 (by omega) c3 (show min (lev s0) (lev s) ≤ lev s by omega) kd3 trivial trivial g4 (by omega) s
  rw [show lev s - min (lev s0) (lev s) = lev s - lev s0 by omega] at r3 r4 r5
  rw [r1]
  simp only [mst_]
  have l4 := r2.1
  have b := rsN_le now (lev s - lev s0) (dn (lev s0 - lev s) (ct now s (lev s0) 0 t m).1) (ct now s (lev s0) 0 t m).2
  have kd4 := r4.kd
  have e4 : h4 (nx + 1) = some ⟨[.ptr none, .int .i64 0], 2, true⟩ := (r2.2 _ (by omega) (by omega)).trans e2'
  have fr4 : Frm (fun i => i = F) h nx h4 n4 := ⟨by omega, fun i hi hd => (r2.2 i (by omega) hd).trans ((g3.2 i (by omega) hd).trans (x1.2 i hi hd))⟩
  have hni := kd4.nil_iff
  unfold rz
  generalize rsN now (lev s - lev s0) (dn (lev s0 - lev s) (ct now s (lev s0) 0 t m).1) (ct now s (lev s0) 0 t m).2 = R at *
  obtain ⟨T, M⟩ := R
  simp only at *
  cases T with
  | nil =>
    obtain rfl := hni.2 rfl
    rw [if_pos (by simp)]
    by_cases c : 0 < s
    · rw [if_pos (decide_eq_true (by omega)), if_pos c]
      obtain ⟨h5, n5, u1, u2, u3, u4, u5⟩ := fresh_spec (f := f) (by omega) Y (nx := n4 + 10) (lv := lev s) (id := 0) (bi := 0) (q := fun _ => none) (ds := fun _ => 0) r3 (by omega) (by omega) (.inl ⟨rfl, fun _ => rfl, rfl⟩)
      rw [u1]
      simp only [mst_]
      rw [j4_spec ((u2.2 _ (by omega) (by omega)).trans e4) rfl]
      refine ⟨_, _, _, rfl, ⟨by omega, fun i hi hd => by rw [put_ne (by omega)]; exact (u2.2 i (by omega) hd).trans (fr4.2 i hi hd)⟩, ?_, ?_⟩
      · unfold FrB; rw [put_ne (by omega)]; exact u4
      · exact .inr ⟨_, _, _, _, _, _, rfl, rfl, .inr ⟨by omega, by omega⟩, by rw [put_ne (by omega)]; exact u5, fun i _ => Kd.nil _ _ _⟩
    · rw [if_neg (by rw [decide_eq_true_eq]; omega), if_neg c, j4_spec e4 rfl]
      exact ⟨_, _, _, rfl, ⟨by omega, fun i hi hd => by rw [put_ne (by omega)]; exact fr4.2 i hi hd⟩, by unfold FrB; rw [put_ne (by omega)]; exact r3, Kd.nil _ _ _⟩
  | nd id bi k ds =>
    have hp : p4.isNone = false := by
      cases p4 with
      | none => have := hni.1 rfl; cases this
      | some p => rfl
    rw [if_neg (by rw [hp]; simp), j4_spec e4 rfl]
    refine ⟨_, _, _, rfl, ⟨by omega, fun i hi hd => by rw [put_ne (by omega)]; exact fr4.2 i hi hd⟩, by unfold FrB; rw [put_ne (by omega)]; exact r3, ?_⟩
    refine kd4.go (fun x hx => ?_) (fun x hx => put_ne ?_)
    · rcases hx with (hx | hx) | hx
      · exact .inl hx
      · exact .inr ⟨by omega, by omega⟩
      · exact .inr ⟨by omega, by omega⟩
    · rcases hx with (hx | hx) | hx
      · have := hA x hx; omega
      · omega
      · omega

end Go.Proofs.Ytogmdfbamgjjfaa.T
