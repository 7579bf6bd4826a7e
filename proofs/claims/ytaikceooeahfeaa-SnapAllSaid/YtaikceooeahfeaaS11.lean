/- Snaps: Play. -/
import Derived.Test.YtaikceooeahfeaaS10
set_option linter.unusedVariables false
set_option linter.unusedSimpArgs false
namespace Go.Proofs.Ytaikceooeahfeaa.T
open Go Go.RowKit Go.Proofs

def mrow (m : Int × Int) : List AV := [.int .i64 m.1, .int .i64 m.2]

theorem KOk.tick {h : AHeap} {nx kb : Nat} {K : KR} (w : KOk h nx kb K) (n : Int) : KOk (h.put kb (some ⟨KR.cells { K with now := n }, 4, true⟩)) nx kb { K with now := n } := by
  have f2 : ∀ b, Frm (fun j => j = kb) h nx (h.put kb b) nx := fun b => ⟨Nat.le_refl _, fun j _ hj => put_ne hj⟩
  exact {
    lt := w.lt
    blk := put_same _ _ _
    bs := w.bs.go (f2 _) fun j hj q => w.a1 (q ▸ hj)
    ss := w.ss.go (f2 _) fun j hj q => w.a2 (q ▸ hj)
    ds := fun s hs => (w.ds s hs).go (f2 _) fun j hj => (w.a4 s hs j hj).1
    a1 := w.a1, a2 := w.a2, a3 := w.a3, a4 := w.a4, a5 := w.a5 }

def outA (kb : Nat) (K : KR) (a : Option (Nat × Nat)) (j : Nat) : Prop := Kown kb K j ∨ ownOf a j

theorem play_loop {f lf : Nat} (hf : 1200 ≤ f) {kb nx0 : Nat} {h0 : AHeap} {ia : Option (Nat × Nat)} {ic : Option Nat} {ms : List (Int × Int)} (hN : ms.length ≤ 300) (s : Sl h0 nx0 ia ms.length 2 (ms.map mrow).flatten) (d : Nat) :
    ∀ (n0 k : Nat) (h : AHeap) (nx : Nat) (K : KR) (a : Option (Nat × Nat)) (c : Option Nat) (gs : List (Int × List Int)), k + d = ms.length → d < n0 → gs.length = k → KOk h nx kb K → PW 0 K.p → K.now = k → OwnRows (fun g r => Gon h nx (outA kb K a) r g) h nx a 2 gs → (∀ j, ownOf a j → ¬ Kown kb K j) → (∀ j, outA kb K a j → nx0 ≤ j) → Ext h0 nx0 h nx →
      ∃ oa oc h' nx', F9_L1 (callP Try.prog keepT f) Y0 lf n0 (some (kb, 0)) a gs.length c ia ms.length ic ((ms.length : Nat) : Int) (k : Int) h nx = some (.tuple [.slice oa ms.length oc, .int .i64 0], h', nx') ∧
        OwnRows (fun g r => Gon h' nx' (ownOf oa) r g) h' nx' oa 2 (gs ++ playP K.p (ms.drop k)) ∧ Ext h0 nx0 h' nx' ∧ ∀ j, ownOf oa j → nx0 ≤ j := by
  induction d with
  | zero =>
    intro n0 k h nx K a c gs e hl hg w pw hk wo ap lo x
    obtain ⟨n0, rfl⟩ : ∃ m, n0 = m + 1 := ⟨n0 - 1, by omega⟩
    rw [F9_L1_eq, if_neg (by rw [decide_eq_true_eq]; omega), List.drop_of_length_le (by omega), show gs.length = ms.length by omega]
    refine ⟨a, c, h, nx + 4, rfl, ?_, x.le (by omega), fun j hj => lo j (.inr hj)⟩
    simp only [playP, List.append_nil]
    have fr : Frm (fun _ => False) h nx h (nx + 4) := (Frm.refl _ h nx).le (by omega)
    exact wo.go fr (fun _ _ q => q) fun g r q => q.go fr (fun _ _ q => q.elim) fun i _ q => .inr q
  | succ d ih =>
    intro n0 k h nx K a c gs e hl hg w pw hk wo ap lo x
    obtain ⟨n0, rfl⟩ : ∃ m, n0 = m + 1 := ⟨n0 - 1, by omega⟩
    have hkl : k < ms.length := by omega
    have kbl := w.lt
    rw [F9_L1_eq, if_pos (decide_eq_true (by omega))]
    have s' : Sl h nx ia ms.length 2 (ms.map mrow).flatten := s.ext x
    have hrow : (((ms.map mrow).flatten).drop (k * 2)).take 2 = mrow ms[k] := flat_drop (fun r hr => by obtain ⟨u, _, rfl⟩ := List.mem_map.1 hr; rfl) (by simp [hkl])
    rw [s'.readR hkl, hrow, List.drop_eq_getElem_cons hkl, playP]
    generalize ms[k] = M
    unfold mrow
    simp only [mst_]
    rw [st_all (put_same _ _ _) (n := 2) rfl rfl (by rfl), put_put]
    obtain ⟨h8, hh8⟩ : ∃ h8, h8 = h.put (nx + 3) (some ⟨[.int .i64 M.1, .int .i64 M.2], 2, true⟩) := ⟨_, rfl⟩
    rw [← hh8]
    have x8 : Ext h nx h8 (nx + 4) := ⟨by omega, fun i hi => by rw [hh8, put_ne (by omega)]⟩
    have w8 : KOk h8 (nx + 20) kb K := w.go (D := fun _ => False) ((x8.le (by omega)).fr _) fun _ _ q => q
    rw [ld_at w8.blk (v := .int .i64 K.now) rfl]
    simp only [mst_]
    rw [show wrapA .i64 (K.now + 1) = K.now + 1 from wA (by omega) (by omega)]
    obtain ⟨K1, hK1⟩ : ∃ K1 : KR, K1 = { K with now := K.now + 1 } := ⟨_, rfl⟩
    rw [st_to w8.blk (cs' := K1.cells) rfl (by show 0 < 4; omega) (by rw [hK1]; rfl)]
    have w14 := w8.tick (K.now + 1)
    rw [← hK1] at w14
    have own1 : ∀ j, Kown kb K1 j ↔ Kown kb K j := fun j => by rw [hK1]; exact Iff.rfl
    obtain ⟨h14, hh14⟩ : ∃ h14, h14 = h8.put kb (some ⟨K1.cells, 4, true⟩) := ⟨_, rfl⟩
    rw [← hh14] at w14 ⊢
    have e3 : h14 (nx + 3) = some ⟨[.int .i64 M.1, .int .i64 M.2], 2, true⟩ := by rw [hh14, put_ne (by omega), hh8, put_same]
    rw [ldr_all e3 (n := 2) rfl]
    simp only [mst_]
    have f14 : Frm (Kown kb K) h nx h14 (nx + 20) := ⟨by omega, fun j hj hk => by rw [hh14, put_ne (fun q => hk (.inl q))]; exact x8.2 j hj⟩
    have hp1 : K1.p = tickP K.p := by rw [hK1]; rfl
    obtain ⟨h19, n19, K2, r, z1, z2, z3, ⟨v, rfl, va, vc, rfl, z4, z5⟩, z6, z7⟩ := move_spec hf w14 (by rw [hp1]; exact tick_pw pw (by show K.now < 400; omega)) M.1 M.2
    rw [z1]
    simp only [mst_]
    have hstep : moveP K1.p M.1 M.2 = stepP K.p M := by rw [hp1]; rfl
    rw [hstep] at z1 z3 z4 z5 ⊢
    obtain ⟨g, hg'⟩ : ∃ g, g = (stepP K.p M).2 := ⟨_, rfl⟩
    rw [← hg'] at z4 z5 ⊢
    have l19 := z6.1
    have klt2 : ∀ j, Kown kb K2 j → Kown kb K j ∨ nx + 20 ≤ j := fun j hj => (z7 j hj).imp (own1 j).1 id
    have ownlt : ∀ j, ownOf a j → j < nx := fun j hj => by
      obtain ⟨rows, _, _, t⟩ := wo
      obtain ⟨o, ea⟩ := hj
      rcases t with ⟨ea', _⟩ | ⟨b, ea', b1, _⟩
      · rw [ea'] at ea; cases ea
      · rw [ea'] at ea; cases ea; exact b1
    have klt := w.own_lt
    -- the list, behind the call
    have f19 : Frm (Kown kb K) h nx h19 n19 := f14.trans (D1 := Kown kb K1) ⟨by omega, fun j hj hk => z6.2 j (by omega) hk⟩ fun j _ q => (own1 j).1 q
    have wo19 : OwnRows (fun g r => Gon h19 n19 (fun j => Kown kb K2 j ∨ ownOf a j ∨ (nx ≤ j ∧ j < nx + 20)) r g) h19 (nx + 17) a 2 gs :=
      wo.go (D := Kown kb K) ⟨by omega, fun j hj hk => f19.2 j hj hk⟩ (fun j hj => ap j hj) fun g r q => q.go f19 (fun i hi q => .inl q) fun i hi q => by
        rcases q with q | q | q
        · rcases klt2 i q with y | y
          · exact .inl y
          · omega
        · exact .inr q
        · omega
    have gnew : Gon h19 n19 (fun j => Kown kb K2 j ∨ ownOf a j ∨ (nx ≤ j ∧ j < nx + 20)) [.int .i64 g.1, .slice va g.2.length vc] g := by
      refine ⟨_, rfl, va, vc, rfl, z4, fun hn p ep q => ?_⟩
      rcases q with q | q | q
      · exact z5 hn p ep (.inl q)
      · exact z5 hn p ep (.inr (by have := ownlt _ q; omega))
      · exact z5 hn p ep (.inr q.2)
    obtain ⟨e25, p1, p2, p3, p4, p5, p6, _, p8⟩ := wo19.push c (bytes := 32) (id := nx + 17) (id2 := nx + 18) (x := g) (r := [.int .i64 g.1, .slice va g.2.length vc]) rfl gnew (growOk_of (by omega) (by omega)) (by omega) (by omega)
    rw [p1]
    simp only [mst_]
    rw [p2]
    simp only [mst_]
    rw [wsucc (i := k) (by omega), show e25.n = (gs ++ [g]).length by rw [p4]; simp]
    have full : ∀ j, ¬ ownOf a j → j ≠ nx + 17 → j ≠ nx + 18 → ((h19.put (nx + 17) (some ⟨[.int .i64 g.1, .slice va g.2.length vc], 2, true⟩)).puts e25.sets) j = h19 j := fun j h1 h2 h3 => by
      rw [puts_get e25.sets j (fun q => by rcases p8 j q with y | y; exact h1 y; exact h3 y), put_ne h2]
    have own25 : ∀ j, ownOf e25.a j → j = nx + 18 := fun j ⟨o, ej⟩ => by rw [p3] at ej; cases ej; rfl
    rw [show nx + 18 + 1 = nx + 19 by omega] at p5
    obtain ⟨h26, hh26⟩ : ∃ h26, h26 = (h19.put (nx + 17) (some ⟨[.int .i64 g.1, .slice va g.2.length vc], 2, true⟩)).puts e25.sets := ⟨_, rfl⟩
    rw [← hh26] at p5 full ⊢
    have f26 : Frm (fun j => ownOf a j ∨ (nx ≤ j ∧ j < nx + 20)) h19 n19 h26 (n19 + 2) := ⟨by omega, fun j _ hd => full j (fun q => hd (.inl q)) (fun q => hd (.inr (by omega))) (fun q => hd (.inr (by omega)))⟩
    have k2out : ∀ j, Kown kb K2 j → ¬ (ownOf a j ∨ (nx ≤ j ∧ j < nx + 20)) := fun j hj q => by
      rcases klt2 j hj with y | y
      · rcases q with q | q
        · exact ap j q y
        · have := klt j y; omega
      · rcases q with q | q
        · have := ownlt j q; omega
        · omega
    have res := ih n0 (k + 1) h26 (n19 + 2) K2 e25.a e25.c (gs ++ [g]) (by omega) (by omega) (by simp; omega) (z2.go f26 k2out) (by rw [z3]; exact step_pw pw (by show K.now < 400; omega) M) (by
        have : K2.p.now = K.p.now + 1 := by rw [z3]; exact step_now _ _
        have h1 : K2.p.now = K2.now := rfl
        have h2 : K.p.now = K.now := rfl
        omega) (p5.go (D := fun _ => False) ⟨by omega, fun _ _ _ => rfl⟩ (fun _ _ q => q) fun g' r' q => q.go f26 (fun i _ q => .inr q) fun i hi q => by
          rcases q with q | q
          · exact .inl q
          · have := own25 i q; exact .inr (.inr (by omega))) (fun j hj q => by
        have := own25 j hj
        rcases klt2 j q with y | y
        · have := klt j y; omega
        · omega) (fun j hj => by
        rcases hj with q | q
        · rcases klt2 j q with y | y
          · exact lo j (.inl y)
          · have := x.1; omega
        · have := own25 j q; have := x.1; omega) ⟨by have := x.1; omega, fun j hj => by
          rw [full j (fun q => by have := lo j (.inr q); omega) (by have := x.1; omega) (by have := x.1; omega), f19.2 j (by have := x.1; omega) (fun q => by have := lo j (.inl q); omega)]
          exact x.2 j hj⟩
    rw [z3] at res
    obtain ⟨oa, oc, h', nx', y1, y2, y3, y4⟩ := res
    refine ⟨oa, oc, h', nx', y1, ?_, y3, y4⟩
    rw [List.append_assoc] at y2
    exact y2

def pk0 : PK := ⟨0, 0, [], []⟩
theorem pk0_pw : PW 0 pk0 := ⟨⟨by decide, by decide⟩, ⟨by decide, by decide⟩, by decide, by decide, by decide, fun s hs => (by cases hs), fun s hs => (by cases hs)⟩

theorem play_spec {f : Nat} (hf : 1600 ≤ f) {h : AHeap} {nx : Nat} {ia : Option (Nat × Nat)} (ic : Option Nat) {ms : List (Int × Int)} (hN : ms.length ≤ 300) (s : Sl h nx ia ms.length 2 (ms.map mrow).flatten) :
    ∃ oa oc h' nx', callP Try.prog keepT f Y0 9 [.slice ia ms.length ic] h nx = some (.tuple [.slice oa ms.length oc, .int .i64 0], h', nx') ∧ OwnRows (fun g r => Gon h' nx' (ownOf oa) r g) h' nx' oa 2 (playP pk0 ms) ∧ Ext h nx h' nx' ∧ ∀ j, ownOf oa j → nx ≤ j := by
  obtain ⟨f, rfl⟩ : ∃ m, f = m + 1 := ⟨f - 1, by omega⟩
  rw [F9_eq, if_neg (by rw [decide_eq_true_eq]; omega)]
  dsimp only
  have x1 : Ext h nx (h.put (nx + 6) (some ⟨[.int .i64 0, .slice none 0 none, .slice none 0 none, .int .i64 0], 4, true⟩)) (nx + 12) := ⟨by omega, fun i hi => put_ne (by omega)⟩
  have w : KOk (h.put (nx + 6) (some ⟨[.int .i64 0, .slice none 0 none, .slice none 0 none, .int .i64 0], 4, true⟩)) (nx + 12) (nx + 6) ⟨0, 0, [], [], none, none, none, none⟩ := {
    lt := by omega
    blk := put_same _ _ _
    bs := Spr.nil _ _ _
    ss := Spr.nil _ _ _
    ds := fun s hs => by cases hs
    a1 := fun ⟨o, q⟩ => by cases q
    a2 := fun ⟨o, q⟩ => by cases q
    a3 := fun b ⟨o, q⟩ => by cases q
    a4 := fun s hs => by cases hs
    a5 := List.Pairwise.nil }
  have := play_loop (f := f) (lf := f) (by omega) (ic := ic) hN s ms.length f 0 _ _ ⟨0, 0, [], [], none, none, none, none⟩ none none [] (by omega) (by omega) rfl w pk0_pw rfl (OwnRows.nil _ _ _ _) (fun j ⟨o, q⟩ => by cases q) (fun j hj => by
    rcases hj with (q | ⟨o, q⟩ | ⟨o, q⟩ | ⟨s, hs, _⟩) | ⟨o, q⟩
    · omega
    · cases q
    · cases q
    · cases hs
    · cases q) x1
  exact this

end Go.Proofs.Ytaikceooeahfeaa.T
