/- Trees: raised. -/
import Derived.Test.YtogmdfbamgjjfaaH5
set_option linter.unusedVariables false
set_option linter.unusedSimpArgs false
namespace Go.Proofs.Ytogmdfbamgjjfaa.T
open Go Go.RowKit Go.Proofs

def rs (now : Nat) : Nat → Tr → Nat → Tr × Nat
  | 0, t, m => (t, m)
  | d + 1, t, m => rs now d (.nd (m + 1) now (up (fun _ => .nil) 0 t) (fun _ => 0)) (m + 1)
/-- A root below d others, if there is one. -/
def rsN (now d : Nat) (t : Tr) (m : Nat) : Tr × Nat := match t with
  | .nil => (.nil, m)
  | .nd a b c e => rs now d (.nd a b c e) m
theorem rs_le (now : Nat) : ∀ (d : Nat) (t : Tr) (m : Nat), (rs now d t m).2 = m + d
  | 0, t, m => rfl
  | d + 1, t, m => by simp only [rs]; rw [rs_le]; omega
theorem rsN_le (now d : Nat) (t : Tr) (m : Nat) : m ≤ (rsN now d t m).2 ∧ (rsN now d t m).2 ≤ m + d := by
  cases t with
  | nil => simp [rsN]
  | nd a b c e => simp only [rsN]; rw [rs_le]; omega

theorem ChO.mono {O : Nat → Tr → Prop} {A : Nat → Prop} {now n0 : Nat} {h : AHeap} : ∀ {n B B' : Nat} {p : Option (Nat × Nat)} {t : Tr}, B ≤ B' → ChO O A now n0 n h B p t → ChO O A now n0 n h B' p t
  | 0, _, _, _, _, _, w => w
  | n + 1, B, B', _, _, l, w => by
    rcases w with w | ⟨id, k, ds, b, q, e1, e2, e3, e4, e5, e6, e7⟩
    · exact .inl w
    · exact .inr ⟨id, k, ds, b, q, e1, e2, e3, by omega, e5, e6, e7⟩

theorem raise_loop {O : Nat → Tr → Prop} {A : Nat → Prop} {now n0 F : Nat} {va : Option (Nat × Nat)} {vc : Bool} {Y : YldF} {f : Nat} (hf : 10 ≤ f) (hA : ∀ x, A x → x < n0 ∧ x ≠ F) (hFn : F < n0) {L : Nat} (L3 : L ≤ 3) (d : Nat) :
    ∀ (lf l : Nat) (p : Option (Nat × Nat)) (t : Tr) (m B : Nat) (h : AHeap) (nx : Nat), l + d = L → d < lf → ChO O A now n0 (l + 1) h B p t → t ≠ .nil → B ≤ nx → n0 ≤ nx → FrB h F va now vc m → m + d ≤ 1000000 →
      ∃ p' h' nx', F25_L1 (callP Try.prog keepT f) Y f lf (some (F, 0)) (L : Int) p h nx = some (.ptr p', h', nx') ∧ Frm (fun i => i = F) h nx h' nx' ∧ FrB h' F va now vc (rs now d t m).2 ∧ ChO O A now n0 (L + 1) h' nx' p' (rs now d t m).1 ∧ (rs now d t m).1 ≠ .nil := by
  induction d with
  | zero =>
    intro lf l p t m B h nx e hl ch ht hB hn hF hm
    obtain ⟨lf, rfl⟩ : ∃ m, lf = m + 1 := ⟨lf - 1, by omega⟩
    obtain rfl : l = L := by omega
    rw [F25_L1_eq]
    have kd := ch.kd
    rcases kd with ⟨_, e2⟩ | ⟨id, bi, k, ds, b, q, rfl, rfl, hb, hv, hk⟩
    · exact absurd e2 ht
    simp only [mst_]
    rw [Nat.zero_add, ld_at (show h b = some ⟨cellsN id bi l q ds, 1, true⟩ from hv) (v := .int .i64 (l : Int)) rfl]
    simp only [mst_]
    rw [if_neg (by rw [decide_eq_true_eq]; omega)]
    exact ⟨_, h, _, rfl, ⟨by omega, fun _ _ _ => rfl⟩, hF, ch.mono (by omega), ht⟩
  | succ d ih =>
    intro lf l p t m B h nx e hl ch ht hB hn hF hm
    obtain ⟨lf, rfl⟩ : ∃ m, lf = m + 1 := ⟨lf - 1, by omega⟩
    rw [F25_L1_eq]
    have kd := ch.kd
    rcases kd with ⟨_, e2⟩ | ⟨id, bi, k, ds, b, q, et, rfl, hb, hv, hk⟩
    · exact absurd e2 ht
    simp only [mst_]
    rw [Nat.zero_add, ld_at (show h b = some ⟨cellsN id bi l q ds, 1, true⟩ from hv) (v := .int .i64 (l : Int)) rfl]
    simp only [mst_]
    rw [if_pos (decide_eq_true (by omega)), ld_at (show h b = some ⟨cellsN id bi l q ds, 1, true⟩ from hv) (v := .int .i64 (l : Int)) rfl]
    simp only [mst_]
    rw [wsucc (by omega)]
    obtain ⟨h1, n1, g1, g2, g3, g4, g5⟩ := fresh_spec (f := f) (by omega) Y (nx := nx + 14) (lv := l + 1) (id := 0) (bi := 0) (q := fun _ => none) (ds := fun _ => 0) hF (by omega) (by omega) (.inl ⟨rfl, fun _ => rfl, rfl⟩)
    rw [g1]
    simp only [mst_]
    rw [if_pos ⟨by omega, by omega⟩, show 0 + 3 + Int.toNat 0 * 1 = 3 + 0 from rfl, st_to (show h1 (nx + 14 + 3) = some ⟨cellsN (m + 1) now (l + 1) (fun _ => none) (fun _ => 0), 1, true⟩ from g5) rfl (by rw [cellsN_len]; decide) (cellsN_setk (m + 1) now (l + 1) (fun _ => none) (fun _ => 0) (i := 0) (by omega) (some (b, 0)))]
    have fr : Frm (fun i => i = F) h nx (h1.put (nx + 14 + 3) (some ⟨cellsN (m + 1) now (l + 1) (up (fun _ => none) 0 (some (b, 0))) (fun _ => 0), 1, true⟩)) (n1 + 8) := ⟨by omega, fun i hi hd => by rw [put_ne (by omega)]; exact g2.2 i (by omega) hd⟩
    obtain ⟨p', h', nx', r1, r2, r3, r4, r5⟩ := ih lf (l + 1) (some (nx + 14 + 3, 0)) (.nd (m + 1) now (up (fun _ => .nil) 0 t) (fun _ => 0)) (m + 1) (nx + 14 + 4) (h1.put (nx + 14 + 3) (some ⟨cellsN (m + 1) now (l + 1) (up (fun _ => none) 0 (some (b, 0))) (fun _ => 0), 1, true⟩)) (n1 + 8) (by omega) (by omega)
      (.inr ⟨m + 1, _, _, nx + 14 + 3, _, rfl, rfl, by omega, by omega, put_same _ _ _, by
        rw [up_same, up_same]
        exact (ch.go (fun x hx => fr.2 x (by rcases hx with hx | hx; have := (hA x hx).1; omega; omega) (by rcases hx with hx | hx; exact (hA x hx).2; omega))).mono (by omega), fun j j1 j2 => by rw [up_ne (by omega), up_ne (by omega)]; exact ⟨rfl, rfl⟩⟩) (by simp) (by omega) (by omega) (by unfold FrB; rw [put_ne (by omega)]; exact g4) (by omega)
    exact ⟨p', h', nx', r1, fr.trans r2 (fun _ _ q => q), r3, r4, r5⟩

theorem raised_spec {O : Nat → Tr → Prop} {A : Nat → Prop} {now F : Nat} {va : Option (Nat × Nat)} {vc : Bool} {f : Nat} (hf : 11 ≤ f) (Y : YldF) {h : AHeap} {nx : Nat} (hA : ∀ x, A x → x < nx ∧ x ≠ F) (hFn : F < nx) {L l : Nat} (L3 : L ≤ 3) (hl : l ≤ L) {p : Option (Nat × Nat)} {t : Tr} {m : Nat} (kd : Kd A (l + 1) h p t) (ho : O (l + 1) t) (hno : O (L + 1) .nil) (hF : FrB h F va now vc m) (hm : m + 3 ≤ 1000000) (s : Nat) :
    ∃ p' h' nx', callP Try.prog keepT f Y 25 [.ptr (some (F, 0)), .agg [.ptr p, .int .i64 (s : Int)], .int .i64 (L : Int)] h nx = some (.ptr p', h', nx') ∧ Frm (fun i => i = F) h nx h' nx' ∧ FrB h' F va now vc (rsN now (L - l) t m).2 ∧ ChO O A now nx (L + 1) h' nx' p' (rsN now (L - l) t m).1 ∧ (t ≠ .nil → (rsN now (L - l) t m).1 ≠ .nil) := by
  obtain ⟨f, rfl⟩ : ∃ m, f = m + 1 := ⟨f - 1, by omega⟩
  rw [F25_eq]
  dsimp only
  have lF : F < nx := hFn
  generalize hh1 : h.put nx _ = h1
  have x1 : Frm (fun i => i = F) h nx h1 (nx + 7) := ⟨by omega, fun i hi _ => by rw [← hh1, put_ne (by omega)]⟩
  have hF1 : FrB h1 F va now vc m := by unfold FrB; rw [← hh1, put_ne (Nat.ne_of_lt lF)]; exact hF
  have e1 : h1 nx = some ⟨[.ptr p, .int .i64 (s : Int)], 2, true⟩ := by rw [← hh1, put_same]
  rw [ld_at e1 (v := .ptr p) rfl]
  simp only [mst_]
  cases t with
  | nil =>
    obtain rfl := kd.nil_iff.2 rfl
    rw [if_pos (by simp)]
    exact ⟨none, h1, _, rfl, x1.le (by omega), hF1, ChO.of (Kd.nil _ _ _) hno, fun q => absurd rfl q⟩
  | nd a b c e =>
    have hp : p.isNone = false := by
      cases p with
      | none => have := kd.nil_iff.1 rfl; cases this
      | some p => rfl
    rw [if_neg (by rw [hp]; simp)]
    obtain ⟨p', h', nx', r1, r2, r3, r4, r5⟩ := raise_loop (f := f) (Y := Y) (n0 := nx) (by omega) hA hFn L3 (L - l) f l p (.nd a b c e) m nx h1 (nx + 7) (by omega) (by omega) (ChO.of (kd.go (fun _ q => q) (fun x hx => x1.2 x (hA x hx).1 (hA x hx).2)) ho) (by simp) (by omega) (by omega) hF1 (by omega)
    exact ⟨p', h', nx', r1, x1.trans r2 (fun _ _ q => q), r3, r4, fun _ => r5⟩

end Go.Proofs.Ytogmdfbamgjjfaa.T
