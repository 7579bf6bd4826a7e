/- Trees: the parts of a step. -/
import Derived.Test.YtogmdfbamgjjfaaH10
set_option linter.unusedVariables false
set_option linter.unusedSimpArgs false
namespace Go.Proofs.Ytogmdfbamgjjfaa.T
open Go Go.RowKit Go.Proofs

theorem For.more {h h' : AHeap} {nx nx' : Nat} {A A' : Nat → Prop} {F : Nat} {va : Option (Nat × Nat)} {fo : Fo} {m : Nat} (w : For h nx A F va fo) (f : Frm (fun i => i = F) h nx h' nx') (hF : ∃ c, FrB h' F va fo.vs.length c m) (a1 : ∀ x, A x → A' x) (a2 : ∀ x, A' x → A x ∨ nx ≤ x ∧ x < nx') : For h' nx' A' F va ⟨fo.vs, m⟩ := by
  have l := f.1
  have lF := w.lF
  refine ⟨hF, w.hv.go f (fun i q e => w.nF (e ▸ q)) (fun _ _ r => r.go a1 (fun b hb => f.2 b (w.hA b hb).1 (w.hA b hb).2.1)), by omega, w.nF, fun x hx => ?_⟩
  rcases a2 x hx with q | q
  · exact ⟨by have := (w.hA x q).1; omega, (w.hA x q).2⟩
  · exact ⟨q.2, by omega, fun z => by have := w.hv.lt z; omega⟩

/-- The answer of a step that has made a version, put into the result. -/
theorem j3_spec {f : Nat} (hf : 100 ≤ f) (Y : YldF) {h : AHeap} {nx n0 F sb ab vb : Nat} {A : Nat → Prop} {va : Option (Nat × Nat)} {fo : Fo} (w : For h nx A F va fo) (hn : fo.vs.length ≤ 500) (hm : fo.m ≤ 900000) (hlow : ∀ x, A x ∨ x = F ∨ ownOf va x → x < n0)
    {st : Stp} {a : Option (Nat × Nat)} {c : Bool} {p : Option (Nat × Nat)} {v : Vn} (kd : Kd A (lev v.s + 1) h p v.t) (old : Old fo.vs.length (lev v.s + 1) v.t) (hvs : v.s ≤ 4096) (h1 : 1 ≤ st.bs.length) (h2 : st.off + st.bs.length ≤ 4096)
    (es : h sb = some ⟨[.int .i64 (st.kind : Int), .int .i64 (st.ver : Int), .int .i64 (st.off : Int), .int .i64 (st.cnt : Int), .slice a st.bs.length c], 5, true⟩) (ea : h ab = some ⟨[.int .i64 0, .int .i64 0, .int .i64 0, .slice none 0 false], 4, true⟩) (ev : h vb = some ⟨[.ptr p, .int .i64 (v.s : Int)], 2, true⟩)
    (ls : n0 ≤ sb ∧ sb < nx) (la : n0 ≤ ab ∧ ab < nx) (lv : n0 ≤ vb ∧ vb < nx) (d1 : sb ≠ ab) (d2 : sb ≠ vb) (d3 : ab ≠ vb) (sl : Sl h n0 a st.bs.length 1 (ints .u8 st.bs)) (av : Av (fun i => i = F) a st.bs.length) :
    ∃ h' nx' A' va', F20_J3 (callP Try.prog keepT f) Y f (some (F, 0)) (some (sb, 0)) (some (ab, 0)) (some (vb, 0)) h nx = some (.agg [.int .i64 0, .int .i64 (fo.vs.length : Int), .int .i64 ((max v.s (st.off + st.bs.length) : Nat) : Int), .slice none 0 false], h', nx') ∧
      For h' nx' A' F va' ⟨fo.vs ++ [⟨(wrV fo.vs.length st.off st.bs v fo.m).1, max v.s (st.off + st.bs.length)⟩], (wrV fo.vs.length st.off st.bs v fo.m).2⟩ ∧ Frm (fun i => i = F ∨ ownOf va i ∨ n0 ≤ i) h nx h' nx' ∧ (∀ x, A x → A' x) ∧ (∀ x, A' x → A x ∨ nx ≤ x) ∧ (∀ i, ownOf va' i → nx ≤ i) := by
  obtain ⟨vc, hd⟩ := w.hd
  have lF := w.lF
  have hF0 : F < n0 := hlow F (.inr (.inl rfl))
  rw [F20_J3_eq]
  simp only [mst_]
  rw [show 0 + 1 = 1 from rfl, show 0 + 2 = 2 from rfl, show 0 + 4 = 4 from rfl, ld_at ev (v := .int .i64 (v.s : Int)) rfl]
  simp only [mst_]
  rw [ld_at es (v := .int .i64 (st.off : Int)) rfl]
  simp only [mst_]
  rw [ld_at es (v := .slice a st.bs.length c) rfl]
  simp only [mst_]
  have hmx : (if wrapA .i64 ((st.off : Int) + ((st.bs.length : Nat) : Int)) > (v.s : Int) then wrapA .i64 ((st.off : Int) + ((st.bs.length : Nat) : Int)) else (v.s : Int)) = ((max v.s (st.off + st.bs.length) : Nat) : Int) := by
    rw [wA (by omega) (by omega)]; split <;> omega
  rw [hmx, st_to ev (cs' := [.ptr p, .int .i64 ((max v.s (st.off + st.bs.length) : Nat) : Int)]) rfl (by simp) rfl]
  have hS : max v.s (st.off + st.bs.length) ≤ 4096 := by omega
  have hSl := lev_mono (show v.s ≤ max v.s (st.off + st.bs.length) by omega)
  have hwl := wrV_le fo.vs.length st.off st.bs v fo.m
  have hrl := rsN_le fo.vs.length (lev (max v.s (st.off + st.bs.length)) - lev v.s) v.t fo.m
  have hL3 := lev_le (max v.s (st.off + st.bs.length))
  have hrm := room3_le hL3
  have e6 : 6 ^ (lev (max v.s (st.off + st.bs.length)) + 1) ≤ 6 ^ 4 := Nat.pow_le_pow_right (by omega) (by omega)
  unfold wrV at hwl ⊢
  generalize max v.s (st.off + st.bs.length) = S at *
  generalize hh1 : h.put vb _ = g1
  have x1 : ∀ i, i ≠ vb → g1 i = h i := fun i hi => by rw [← hh1, put_ne hi]
  have ev1 : g1 vb = some ⟨[.ptr p, .int .i64 (S : Int)], 2, true⟩ := by rw [← hh1, put_same]
  have fr1 : Frm (fun i => i = vb) h nx g1 nx := ⟨Nat.le_refl _, fun i _ hi => x1 i hi⟩
  rw [ld_at ev1 (v := .int .i64 (S : Int)) rfl]
  simp only [mst_]
  obtain ⟨n1, l1, q1⟩ := lev_spec (f := f) (by omega) Y hS g1 (nx + 15)
  rw [q1]
  simp only [mst_]
  rw [ldr_all ev1 (by simp)]
  simp only [mst_]
  have w1 : For g1 (n1 + 17) A F va fo := by
    refine ⟨⟨vc, (x1 F (by omega)).trans hd⟩, w.hv.go (D := fun i => i = vb) ⟨by omega, fun i _ hi => x1 i hi⟩ (fun i q e => by have := hlow i (.inr (.inr q)); omega) (fun _ _ r => r.go (fun _ q => q) (fun b hb => x1 b (by have := hlow b (.inl hb); omega))), by omega, w.nF, fun x hx => ⟨by have := (w.hA x hx).1; omega, (w.hA x hx).2⟩⟩
  have kd1 : Kd A (lev v.s + 1) g1 p v.t := kd.go (fun _ q => q) (fun b hb => x1 b (by have := hlow b (.inl hb); omega))
  obtain ⟨p2, h2', n2, q2, f2, g2, c2, _⟩ := raised_spec (O := Old fo.vs.length) (f := f) (by omega) Y (h := g1) (nx := n1 + 17) (A := A) (F := F) (fun x hx => ⟨(w1.hA x hx).1, (w1.hA x hx).2.1⟩) w1.lF hL3 hSl kd1 old (Old.nil _ _) (show FrB g1 F va fo.vs.length vc fo.m from (x1 F (by omega)).trans hd) (by omega) S
  rw [q2]
  simp only [mst_]
  have l2 := f2.1
  have es2 : h2' sb = some ⟨[.int .i64 (st.kind : Int), .int .i64 (st.ver : Int), .int .i64 (st.off : Int), .int .i64 (st.cnt : Int), .slice a st.bs.length c], 5, true⟩ := (f2.2 sb (by omega) (by omega)).trans ((x1 sb d2).trans es)
  have ev2 : h2' vb = some ⟨[.ptr p, .int .i64 (S : Int)], 2, true⟩ := (f2.2 vb (by omega) (by omega)).trans ev1
  rw [ld_at es2 (v := .int .i64 (st.off : Int)) rfl]
  simp only [mst_]
  rw [ld_at es2 (v := .slice a st.bs.length c) rfl]
  simp only [mst_]
  have sl1 : Sl h2' (n1 + 17) a st.bs.length 1 (ints .u8 st.bs) := by
    have : Sl h2' n0 a st.bs.length 1 (ints .u8 st.bs) := sl.fr (D := fun i => i = F) av ⟨Nat.le_refl _, fun i hi hd => (f2.2 i (by omega) hd).trans (x1 i (by omega))⟩
    exact this.ext ⟨by omega, fun _ _ => rfl⟩
  obtain ⟨p3, h3, n3, q3, f3, g3, k3⟩ := ws_all (A := A) (now := fo.vs.length) (n0 := n1 + 17) (F := F) (va := va) (vc := vc) (off := st.off) (bs := st.bs) (a := a) (c := c) (Y := Y) (fun x hx => ⟨(w1.hA x hx).1, (w1.hA x hx).2.1⟩) w1.lF av (by omega) (by omega) (lev S) f hL3 (by omega)
    n2 p2 _ _ 0 h2' n2 c2 (by omega) (Nat.le_refl _) (by omega) g2 (by omega) sl1
  rw [show ((0 : Nat) : Int) = 0 from rfl] at q3
  rw [q3]
  simp only [mst_]
  have l3 := f3.1
  have ev3 : h3 vb = some ⟨[.ptr p, .int .i64 (S : Int)], 2, true⟩ := (f3.2 vb (by omega) (by omega)).trans ev2
  rw [ld_at ev3 (v := .int .i64 (S : Int)) rfl]
  simp only [mst_]
  have f13 : Frm (fun i => i = F) g1 (n1 + 17) h3 n3 := f2.trans f3 (fun i hi q => by rcases q with q | q; exact q; omega)
  have w3 := w1.more (A' := fun x => A x ∨ n1 + 17 ≤ x ∧ x < n3) f13 ⟨vc, g3⟩ (fun _ q => .inl q) (fun _ q => q)
  have k3' : Kd (fun x => A x ∨ n1 + 17 ≤ x ∧ x < n3) (lev S + 1) h3 p3 (wr fo.vs.length st.off st.bs (lev S) 0 (rsN fo.vs.length (lev S - lev v.s) v.t fo.m).1 (rsN fo.vs.length (lev S - lev v.s) v.t fo.m).2).1 :=
    k3.go (fun x hx => by rcases hx with hx | hx | hx; exact .inl hx; exact .inr ⟨hx.1, by omega⟩; exact .inr ⟨by omega, hx.2⟩) (fun _ _ => rfl)
  obtain ⟨va', h4, n4, q4, f4, w4, o4⟩ := add_spec (f := f) (by omega) Y w3 (by simp only; omega) (v := ⟨_, S⟩) k3'
  rw [q4]
  simp only [mst_]
  have l4 := f4.1
  have ea4 : h4 ab = some ⟨[.int .i64 0, .int .i64 0, .int .i64 0, .slice none 0 false], 4, true⟩ :=
    (f4.2 ab (by omega) (fun q => by have := hlow ab (by rcases q with q | q; exact .inr (.inl q); exact .inr (.inr q)); omega)).trans ((f13.2 ab (by omega) (by omega)).trans ((x1 ab d3).trans ea))
  rw [st_all ea4 (by simp) (by simp) (by simp [allOne, AV.one]), ifKept_pos (by
    simp only [AllKept]
    refine ⟨fun x hx => ?_, fun x hx => ?_, fun x hx => ?_, fun x hx => ?_, trivial⟩ <;> simp at hx <;> subst hx
    · exact f2.2 _ (by omega) (by omega)
    · exact f2.2 _ (by omega) (by omega)
    · exact f2.2 _ (by omega) (by omega)
    · exact f3.2 _ (by omega) (by omega)), ldr_all (put_same _ _ _) (by simp)]
  simp only [mst_]
  refine ⟨_, _, fun x => A x ∨ n1 + 17 ≤ x ∧ x < n3, va', rfl, ?_, ⟨by omega, fun i hi hd => ?_⟩, fun x hx => .inl hx, fun x hx => ?_, fun i q => by have := o4 i q; omega⟩
  · have hab : ∀ x, (A x ∨ n1 + 17 ≤ x ∧ x < n3) → x ≠ ab := fun x hx => by
      rcases hx with hx | hx
      · have := hlow x (.inl hx); omega
      · omega
    obtain ⟨c4, e4⟩ := w4.hd
    have hab2 : ∀ i, ownOf va' i → i ≠ ab := fun i q => by have := o4 i q; omega
    exact ⟨⟨c4, by unfold FrB; rw [put_ne (by omega)]; exact e4⟩, w4.hv.go (D := fun i => i = ab) ⟨Nat.le_refl _, fun i _ hi => put_ne hi⟩ (fun i q => hab2 i q) (fun _ _ r => r.go (fun _ q => q) (fun b hb => put_ne (hab b hb))), w4.lF, w4.nF, w4.hA⟩
  · rw [put_ne (by omega), f4.2 i (by omega) (fun q => hd (by rcases q with q | q; exact .inl q; exact .inr (.inl q))), f13.2 i (by omega) (fun q => hd (.inl q)), x1 i (by omega)]
  · rcases hx with hx | hx
    · exact .inl hx
    · exact .inr (by omega)

end Go.Proofs.Ytogmdfbamgjjfaa.T
