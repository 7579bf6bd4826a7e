/- Trees: the walk of write. -/
import Derived.Test.YtogmdfbamgjjfaaH3
set_option linter.unusedVariables false
set_option linter.unusedSimpArgs false
namespace Go.Proofs.Ytogmdfbamgjjfaa.T
open Go Go.RowKit Go.Proofs

theorem blkN_dat {id bi lv : Nat} {q : Nat → Option (Nat × Nat)} {ds ds' : Nat → Int} (h : ∀ j, j < 64 → ds j = ds' j) : blkN id bi lv q ds = blkN id bi lv q ds' := by
  have : datC ds = datC ds' := by
    apply List.ext_getElem?
    intro j
    by_cases hj : j < 64
    · rw [dat_at _ hj, dat_at _ hj, h j hj]
    · rw [List.getElem?_eq_none (by rw [datC_len]; omega), List.getElem?_eq_none (by rw [datC_len]; omega)]
  unfold blkN cellsN; rw [this]

/-- The node that write has made or found, at level l: what its kids and bytes become. -/
theorem w_node {A : Nat → Prop} {now n0 F : Nat} {va : Option (Nat × Nat)} {vc : Bool} {off : Nat} {bs : List Int} {a : Option (Nat × Nat)} {c : Bool} {Y : YldF} {f l : Nat} (hf : 80 ≤ f) (ws : ∀ l', l = l' + 1 → WS A now n0 F va vc off bs a c Y f l') (hA : ∀ x, A x → x < n0 ∧ x ≠ F) (hFn : F < n0) (l3 : l ≤ 3) (av : Av (fun i => i = F) a bs.length) (hn : bs.length ≤ 10000) (ho : off ≤ 100000)
    {b id base b0 m : Nat} {q : Nat → Option (Nat × Nat)} {t : Tr} {ds : Nat → Int} {h : AHeap} {nx : Nat} (n0b : n0 ≤ b) (nb0 : n0 ≤ b0) (b0b : b0 ≤ b) (bN : b < nx) (hm : (frs now t m).2 + 4 * 6 ^ l ≤ 1000000) (hbase : base + room l ≤ 8192) (hv : h b = some (blkN id now l q ds)) (hds : ∀ j, j < 64 → ds j = t.dat j) (hid : id = (frs now t m).1) (hF : FrB h F va now vc (frs now t m).2)
    (sl : Sl h n0 a bs.length 1 (ints .u8 bs)) (k0 : Ch A now n0 l h b0 (q 0) (t.kids 0)) (kk : ∀ j, 1 ≤ j → j < 4 → Kd A l h (q j) (t.kids j) ∧ Old now l (t.kids j)) (hno : ¬ (base + room l ≤ off ∨ off + bs.length ≤ base)) :
    ∃ h' nx', F24_J2 (callP Try.prog keepT f) Y f (some (F, 0)) (some (b, 0)) (l : Int) (base : Int) (off : Int) a bs.length c h nx = some (.ptr (some (b, 0)), h', nx') ∧ Frm (fun x => x = F ∨ x = b ∨ n0 ≤ x ∧ x < b0) h nx h' nx' ∧ FrB h' F va now vc (wr now off bs l base t m).2 ∧
      Kd (fun x => A x ∨ n0 ≤ x ∧ x < b0 ∨ x = b ∨ nx ≤ x ∧ x < nx') (l + 1) h' (some (b, 0)) (wr now off bs l base t m).1 := by
  rw [F24_J2_eq]
  cases l with
  | zero =>
    rw [if_pos (by decide)]
    have hsl : Av (fun i => i = b) a bs.length := fun h0 p e q => by
      obtain ⟨p', _, e1, e2, _⟩ := sl.2 0 h0
      rw [e] at e1; obtain rfl := Option.some.inj e1
      omega
    obtain ⟨ds2, h', nx', r1, r2, r3, r4, r5⟩ := leaf_loop (f := f) (Y := Y) (g := f) (id := id) (now := now) (base := base) (off := off) (q := q) (c := c) hn (by omega) ho ds 64 f 0 ds h (nx + 3) rfl (by omega) (fun j => by rw [if_neg (by omega)]) sl hsl hv
    refine ⟨h', nx', r1, ⟨by omega, fun x hx hd => r3 x (fun e => hd (.inr (.inl e)))⟩, ?_, ?_⟩
    · unfold wr FrB; rw [if_neg hno, r3 F (by omega)]; exact hF
    · unfold wr; rw [if_neg hno]
      refine .inr ⟨_, _, _, _, b, q, rfl, rfl, .inr (.inr (.inl rfl)), ?_, fun i hi => ?_⟩
      · rw [r4, ← hid]; congr 1; exact blkN_dat (fun j hj => by rw [r5 j hj]; unfold patch; rw [hds j hj])
      · cases i with
        | zero => exact k0
        | succ i => exact (kk (i + 1) (by omega) hi).1
  | succ l =>
    rw [if_neg (by rw [beq_iff_eq]; omega)]
    simp only [mst_]
    rw [Nat.zero_add, ldr_at (show h b = some ⟨cellsN id now (l + 1) q ds, 1, true⟩ from hv) (by rw [cellsN_len]; omega), cellsN_kids]
    have ws := ws l rfl
    have h6 := Nat.pow_pos (n := l + 1) (show 0 < 6 by omega)
    obtain ⟨p', h2, n2, g1, g2, g3, g4, g5⟩ := w_step (by omega) ws hA hFn (by omega) (i := 0) (by omega) (g := f) (lf := f - 1) (nx := nx + 7) hv n0b (by omega) k0 nb0 b0b hF (by omega) hbase sl
    rw [show f - 1 + 1 = f by omega] at g1
    rw [show ((0 : Nat) : Int) = 0 from rfl] at g1
    rw [g1]
    have l2' := g2.1
    have fr2 : ∀ x, x < n0 → x ≠ F → h2 x = h x := fun x hx hd => g2.2 x (by omega) (by omega)
    obtain ⟨q', h', nx', r1, r2, r3, r4, r5⟩ := w_loop (by omega) ws hA hFn (by omega) av (g := f) (base := base) (b0 := b0) (N := nx + 7) (q := q) (k := t.kids) (ds := ds) (m := (frs now t m).2) n0b nb0 b0b (by omega) (by omega) hbase 3 (f - 1) 1 (up q 0 p') h2 n2 (by omega) (by omega) (by omega) (by omega) g3 g4
      (sl.fr (D := fun x => x = F) av ⟨Nat.le_refl _, fun x hx hd => fr2 x hx hd⟩) (fun j j1 j2 => ⟨(kk j j1 j2).1.go (fun _ z => z) (fun x hx => fr2 x (hA x hx).1 (hA x hx).2), (kk j j1 j2).2⟩) (fun j hj => by
        obtain rfl : j = 0 := by omega
        simp only [fold]
        rw [up_same, up_same]
        exact g5)
    refine ⟨h', nx', r1, ⟨by have := r2.1; omega, fun x hx hd => ?_⟩, ?_, ?_⟩
    · exact (r2.2 x (by omega) (fun e => hd (by rcases e with e | e; exact .inl e; exact .inr (.inl e)))).trans (g2.2 x (by omega) hd)
    · unfold wr; rw [if_neg hno]; exact r4
    · unfold wr; rw [if_neg hno]
      refine .inr ⟨_, _, _, _, b, q', rfl, rfl, .inr (.inr (.inl rfl)), ?_, fun i hi => ?_⟩
      · rw [r3, ← hid]; congr 1; exact blkN_dat hds
      · exact (r5 i hi).go (fun x hx => by rcases hx with hx | hx | hx; exact .inl hx; exact .inr (.inl hx); exact .inr (.inr (.inr ⟨by omega, hx.2⟩))) (fun _ _ => rfl)

theorem wr_skip {now off base l m : Nat} {bs : List Int} {t : Tr} (h : base + room l ≤ off ∨ off + bs.length ≤ base) : wr now off bs l base t m = (t, m) := by
  cases l with
  | zero => unfold wr; rw [if_pos h]
  | succ l => unfold wr; rw [if_pos h]

theorem ws_one {A : Nat → Prop} {now n0 F : Nat} {va : Option (Nat × Nat)} {vc : Bool} {off : Nat} {bs : List Int} {a : Option (Nat × Nat)} {c : Bool} {Y : YldF} (hA : ∀ x, A x → x < n0 ∧ x ≠ F) (hFn : F < n0) (av : Av (fun i => i = F) a bs.length) (hn : bs.length ≤ 10000) (ho : off ≤ 100000)
    {l f : Nat} (l3 : l ≤ 3) (hf : 80 ≤ f) (kw : ∀ l', l = l' + 1 → WS A now n0 F va vc off bs a c Y f l') : WS A now n0 F va vc off bs a c Y (f + 1) l := by
  intro B p t m base h nx ch nB Bn hbase hF hm sl
  have h6 : 6 ^ (l + 1) = 6 * 6 ^ l := by rw [Nat.pow_succ]; omega
  have h6p := Nat.pow_pos (n := l) (show 0 < 6 by omega)
  have kd := ch.kd
  have kd1 : ∀ n1, nx ≤ n1 → Kd (fun x => A x ∨ n0 ≤ x ∧ x < B ∨ nx ≤ x ∧ x < n1) (l + 1) h p t := fun n1 _ => kd.go (fun x hx => by rcases hx with hx | hx; exact .inl hx; exact .inr (.inl hx)) (fun _ _ => rfl)
  rw [F24_eq, room_spec (by omega) Y (by omega)]
  simp only [mst_]
  have hlen : bs.length ≤ 10000 := hn
  rw [show wrapA .i64 ((base : Int) + (room l : Int)) = ((base + room l : Nat) : Int) by rw [wA (by omega) (by omega)]; push_cast; rfl, show wrapA .i64 ((off : Int) + ((bs.length : Nat) : Int)) = ((off + bs.length : Nat) : Int) by rw [wA (by omega) (by omega)]; push_cast; rfl]
  by_cases c1 : base + room l ≤ off
  · rw [if_pos (decide_eq_true (by omega)), wr_skip (.inl c1)]
    exact ⟨p, h, _, rfl, ⟨by omega, fun _ _ _ => rfl⟩, hF, kd1 _ (by omega)⟩
  rw [if_neg (by rw [decide_eq_true_eq]; omega)]
  by_cases c2 : off + bs.length ≤ base
  · rw [if_pos (decide_eq_true (by omega)), wr_skip (.inr c2)]
    exact ⟨p, h, _, rfl, ⟨by omega, fun _ _ _ => rfl⟩, hF, kd1 _ (by omega)⟩
  rw [if_neg (by rw [decide_eq_true_eq]; omega), F24_J1_eq]
  have hno : ¬ (base + room l ≤ off ∨ off + bs.length ≤ base) := by omega
  -- a fresh node of like kids
  have made : ∀ (b : Nat) (q : Nat → Option (Nat × Nat)) (ds : Nat → Int) (h1 : AHeap) (n1 : Nat), frs now t m = (m + 1, m + 1) → nx ≤ b → b < n1 → Frm (fun i => i = F) h nx h1 n1 → FrB h1 F va now vc (m + 1) → h1 b = some (blkN (m + 1) now l q ds) → (∀ j, j < 64 → ds j = t.dat j) → (∀ j, j < 4 → Kd A l h (q j) (t.kids j) ∧ Old now l (t.kids j)) →
      ∃ p' h' nx', F24_J2 (callP Try.prog keepT f) Y f (some (F, 0)) (some (b, 0)) (l : Int) (base : Int) (off : Int) a bs.length c h1 n1 = some (.ptr p', h', nx') ∧ Frm (fun i => i = F ∨ n0 ≤ i ∧ i < B) h nx h' nx' ∧ FrB h' F va now vc (wr now off bs l base t m).2 ∧ Kd (fun x => A x ∨ n0 ≤ x ∧ x < B ∨ nx ≤ x ∧ x < nx') (l + 1) h' p' (wr now off bs l base t m).1 := by
    intro b q ds h1 n1 ef lb lb1 fr hF1 hv hds hk
    have keep : ∀ j, j < 4 → Kd A l h1 (q j) (t.kids j) ∧ Old now l (t.kids j) := fun j hj => ⟨(hk j hj).1.go (fun _ z => z) (fun x hx => fr.2 x (by have := (hA x hx).1; omega) (hA x hx).2), (hk j hj).2⟩
    obtain ⟨h', nx', r1, r2, r3, r4⟩ := w_node (id := m + 1) (b0 := n0) hf kw hA hFn l3 av hn ho (t := t) (m := m) (base := base) (by omega) (Nat.le_refl _) (by omega) lb1 (by rw [ef]; simp only; omega) hbase hv hds (by rw [ef]) (by rw [ef]; exact hF1)
      (sl.fr (D := fun x => x = F) av ⟨Nat.le_refl _, fun x hx hd => fr.2 x (by omega) hd⟩) (ChO.of (keep 0 (by omega)).1 (keep 0 (by omega)).2) (fun j _ hj => keep j hj) hno
    refine ⟨_, h', nx', r1, ⟨by have := fr.1; have := r2.1; omega, fun x hx hd => ?_⟩, r3, r4.go (fun x hx => ?_) (fun _ _ => rfl)⟩
    · exact (r2.2 x (by omega) (fun e => hd (by rcases e with e | e | e; exact .inl e; omega; omega))).trans (fr.2 x hx (fun e => hd (.inl e)))
    · rcases hx with hx | hx | hx | hx
      · exact .inl hx
      · omega
      · exact .inr (.inr (by have := r2.1; omega))
      · exact .inr (.inr ⟨by omega, hx.2⟩)
  have old : Kd A (l + 1) h p t ∧ Old now (l + 1) t → ∃ p' h' nx', F24_J1 (callP Try.prog keepT f) Y f (some (F, 0)) p (l : Int) (base : Int) (off : Int) a bs.length c h (nx + 15 + 5) = some (.ptr p', h', nx') ∧ Frm (fun i => i = F ∨ n0 ≤ i ∧ i < B) h nx h' nx' ∧ FrB h' F va now vc (wr now off bs l base t m).2 ∧ Kd (fun x => A x ∨ n0 ≤ x ∧ x < B ∨ nx ≤ x ∧ x < nx') (l + 1) h' p' (wr now off bs l base t m).1 := by
    rintro ⟨k, o⟩
    rw [F24_J1_eq]
    rcases k with ⟨rfl, rfl⟩ | ⟨id, bi, kk, ds, b, q, rfl, rfl, hb, hv, hk⟩
    · rw [if_pos (by simp)]
      obtain ⟨h1, n1, g1, g2, g3, g4, g5⟩ := fresh_spec (f := f) (by omega) Y (nx := nx + 15 + 5 + 19) (lv := l) (id := 0) (bi := 0) (q := fun _ => none) (ds := fun _ => 0) hF (by omega) (by omega) (.inl ⟨rfl, fun _ => rfl, rfl⟩)
      rw [g1]
      simp only [mst_]
      exact made _ _ _ h1 n1 rfl (by omega) (by omega) ⟨by omega, fun i hi hd => g2.2 i (by omega) hd⟩ g4 g5 (fun _ _ => rfl) (fun j _ => ⟨Kd.nil _ _ _, Old.nil _ _⟩)
    · obtain ⟨o1, o2⟩ := o
      have hbA := hA b hb
      rw [if_neg (by simp)]
      simp only [mst_]
      rw [Nat.zero_add, ld_at (show h b = some ⟨cellsN id bi l q ds, 1, true⟩ from hv) (v := .int .i64 (bi : Int)) rfl]
      simp only [mst_]
      rw [ld_at hF (v := .slice va now vc) rfl]
      simp only [mst_]
      rw [if_pos (decide_eq_true (by omega))]
      obtain ⟨h1, n1, g1, g2, g3, g4, g5⟩ := fresh_spec (f := f) (by omega) Y (nx := nx + 15 + 5 + 19) (lv := l) (id := id) (bi := bi) (q := q) (ds := ds) hF (by omega) (by omega) (.inr ⟨b, rfl, by omega, hv⟩)
      rw [g1]
      simp only [mst_]
      exact made _ _ _ h1 n1 (by simp only [frs]; rw [if_pos o1]) (by omega) (by omega) ⟨by omega, fun i hi hd => g2.2 i (by omega) hd⟩ g4 g5 (fun _ _ => rfl) (fun j hj => ⟨hk j hj, o2 j hj⟩)
  rw [← F24_J1_eq]
  rcases ch with w | ⟨id, k, ds, b, q, rfl, rfl, b1, b2, hv, hk, hnil⟩
  · exact old w
  · rw [F24_J1_eq, if_neg (by simp)]
    simp only [mst_]
    rw [Nat.zero_add, ld_at (show h b = some ⟨cellsN id now l q ds, 1, true⟩ from hv) (v := .int .i64 (now : Int)) rfl]
    simp only [mst_]
    rw [ld_at hF (v := .slice va now vc) rfl]
    simp only [mst_]
    rw [if_neg (by rw [decide_eq_true_eq]; omega)]
    have ef : frs now (.nd id now k ds) m = (id, m) := by simp only [frs]; rw [if_neg (by omega)]
    obtain ⟨h', nx', r1, r2, r3, r4⟩ := w_node (id := id) (b0 := b) hf kw hA hFn l3 av hn ho (t := .nd id now k ds) (m := m) (base := base) (nx := nx + 15 + 5 + 14) b1 b1 (Nat.le_refl _) (by omega) (by rw [ef]; simp only; omega) hbase hv (fun _ _ => rfl) (by rw [ef]) (by rw [ef]; exact hF)
      sl hk (fun j j1 j2 => by obtain ⟨a, b⟩ := hnil j j1 j2; rw [a]; exact ⟨by show Kd A l h none (k j); rw [b]; exact Kd.nil _ _ _, by show Old now l (k j); rw [b]; exact Old.nil _ _⟩) hno
    refine ⟨_, h', nx', r1, ⟨by have := r2.1; omega, fun x hx hd => r2.2 x (by omega) (fun e => hd (by rcases e with e | e | e; exact .inl e; exact .inr ⟨by omega, by omega⟩; exact .inr ⟨e.1, by omega⟩))⟩, r3, r4.go (fun x hx => ?_) (fun _ _ => rfl)⟩
    rcases hx with hx | hx | hx | hx
    · exact .inl hx
    · exact .inr (.inl ⟨hx.1, by omega⟩)
    · exact .inr (.inl ⟨by omega, by omega⟩)
    · exact .inr (.inr ⟨by omega, hx.2⟩)

theorem ws_all {A : Nat → Prop} {now n0 F : Nat} {va : Option (Nat × Nat)} {vc : Bool} {off : Nat} {bs : List Int} {a : Option (Nat × Nat)} {c : Bool} {Y : YldF} (hA : ∀ x, A x → x < n0 ∧ x ≠ F) (hFn : F < n0) (av : Av (fun i => i = F) a bs.length) (hn : bs.length ≤ 10000) (ho : off ≤ 100000) :
    ∀ (l f : Nat), l ≤ 3 → 81 + l ≤ f → WS A now n0 F va vc off bs a c Y f l := by
  intro l
  induction l with
  | zero =>
    intro f l3 hf
    obtain ⟨f, rfl⟩ : ∃ m, f = m + 1 := ⟨f - 1, by omega⟩
    exact ws_one hA hFn av hn ho l3 (by omega) (fun l' e => by omega)
  | succ l ih =>
    intro f l3 hf
    obtain ⟨f, rfl⟩ : ∃ m, f = m + 1 := ⟨f - 1, by omega⟩
    exact ws_one hA hFn av hn ho l3 (by omega) (fun l' e => (show l = l' by omega) ▸ ih f (by omega) (by omega))

end Go.Proofs.Ytogmdfbamgjjfaa.T
