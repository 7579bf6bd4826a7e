/- Trees: a step. -/
import Derived.Test.YtogmdfbamgjjfaaH11
set_option linter.unusedVariables false
set_option linter.unusedSimpArgs false
namespace Go.Proofs.Ytogmdfbamgjjfaa.T
open Go Go.RowKit Go.Proofs

theorem For.putA {h : AHeap} {nx : Nat} {A : Nat → Prop} {F : Nat} {va : Option (Nat × Nat)} {fo : Fo} (w : For h nx A F va fo) {i : Nat} (b : Option ABlk) (hA : ¬ A i) (hF : i ≠ F) (ho : ¬ ownOf va i) : For (h.put i b) nx A F va fo := by
  obtain ⟨c, e⟩ := w.hd
  exact ⟨⟨c, by unfold FrB; rw [put_ne (Ne.symm hF)]; exact e⟩, w.hv.go (D := fun j => j = i) ⟨Nat.le_refl _, fun j _ hj => put_ne hj⟩ (fun j q e => ho (e ▸ q)) (fun _ _ r => r.go (fun _ q => q) (fun x hx => put_ne (fun e => hA (e ▸ hx)))), w.lF, w.nF, w.hA⟩

theorem j4s_spec {f : Nat} (hf : 100 ≤ f) (Y : YldF) {h : AHeap} {nx n0 F sb ab vb : Nat} {A : Nat → Prop} {va : Option (Nat × Nat)} {fo : Fo} (w : For h nx A F va fo) (hn : fo.vs.length ≤ 500) (hm : fo.m ≤ 900000) (hlow : ∀ x, A x ∨ x = F ∨ ownOf va x → x < n0)
    {st : Stp} {dv : AV} {p : Option (Nat × Nat)} {v : Vn} (kd : Kd A (lev v.s + 1) h p v.t) (hvs : v.s ≤ 4096) (h2 : st.cnt ≤ 4096)
    (es : h sb = some ⟨[.int .i64 (st.kind : Int), .int .i64 (st.ver : Int), .int .i64 (st.off : Int), .int .i64 (st.cnt : Int), dv], 5, true⟩) (ea : h ab = some ⟨[.int .i64 0, .int .i64 0, .int .i64 0, .slice none 0 false], 4, true⟩) (ev : h vb = some ⟨[.ptr p, .int .i64 (v.s : Int)], 2, true⟩)
    (ls : n0 ≤ sb ∧ sb < nx) (la : n0 ≤ ab ∧ ab < nx) (lv : n0 ≤ vb ∧ vb < nx) :
    ∃ h' nx' A' va', F20_J4 (callP Try.prog keepT f) Y f (some (F, 0)) (some (sb, 0)) (some (ab, 0)) (some (vb, 0)) h nx = some (.agg [.int .i64 0, .int .i64 (fo.vs.length : Int), .int .i64 (st.cnt : Int), .slice none 0 false], h', nx') ∧
      For h' nx' A' F va' ⟨fo.vs ++ [⟨(rz fo.vs.length v.s st.cnt v.t fo.m).1, st.cnt⟩], (rz fo.vs.length v.s st.cnt v.t fo.m).2⟩ ∧ Frm (fun i => i = F ∨ ownOf va i ∨ n0 ≤ i) h nx h' nx' ∧ (∀ x, A x → A' x) ∧ (∀ x, A' x → A x ∨ nx ≤ x) ∧ (∀ i, ownOf va' i → nx ≤ i) := by
  obtain ⟨vc, hd⟩ := w.hd
  have lF := w.lF
  rw [F20_J4_eq]
  simp only [mst_]
  rw [show 0 + 3 = 3 from rfl, ldr_all ev (by simp)]
  simp only [mst_]
  rw [ld_at es (v := .int .i64 (st.cnt : Int)) rfl]
  simp only [mst_]
  have w1 : For h (nx + 8) A F va fo := w.ext ⟨by omega, fun _ _ => rfl⟩
  obtain ⟨p2, g2, n2, q2, f2, e2, k2⟩ := resized_spec (f := f) (by omega) Y (h := h) (nx := nx + 8) (A := A) (F := F) (fun x hx => ⟨(w1.hA x hx).1, (w1.hA x hx).2.1⟩) w1.lF hvs h2 kd (show FrB h F va fo.vs.length vc fo.m from hd) (by omega)
  rw [q2]
  simp only [mst_]
  have l2 := f2.1
  have w2 := w1.more (A' := fun x => A x ∨ nx + 8 ≤ x ∧ x < n2) f2 ⟨vc, e2⟩ (fun _ q => .inl q) (fun _ q => q)
  obtain ⟨va', h4, n4, q4, f4, w4, o4⟩ := add_spec (f := f) (by omega) Y w2 (by simp only; omega) (v := ⟨_, st.cnt⟩) k2
  rw [q4]
  simp only [mst_]
  have l4 := f4.1
  have ea4 : h4 ab = some ⟨[.int .i64 0, .int .i64 0, .int .i64 0, .slice none 0 false], 4, true⟩ :=
    (f4.2 ab (by omega) (fun q => by have := hlow ab (by rcases q with q | q; exact .inr (.inl q); exact .inr (.inr q)); omega)).trans ((f2.2 ab (by omega) (fun q => by have := hlow ab (.inr (.inl q)); omega)).trans ea)
  rw [st_all ea4 (by simp) (by simp) (by simp [allOne, AV.one]), ldr_all (put_same _ _ _) (by simp)]
  simp only [mst_]
  refine ⟨_, _, fun x => A x ∨ nx + 8 ≤ x ∧ x < n2, va', rfl, w4.putA _ (fun q => ?_) (fun q => by have := hlow ab (.inr (.inl q)); omega) (fun q => by have := o4 _ q; omega), ⟨by omega, fun i hi hd => ?_⟩, fun x hx => .inl hx, fun x hx => ?_, fun i q => by have := o4 i q; omega⟩
  · rcases q with q | q
    · have := hlow ab (.inl q); omega
    · omega
  · rw [put_ne (by omega), f4.2 i (by omega) (fun q => hd (by rcases q with q | q; exact .inl q; exact .inr (.inl q))), f2.2 i (by omega) (fun q => hd (.inl q))]
  · rcases hx with hx | hx
    · exact .inl hx
    · exact .inr (by omega)

theorem j5_spec {f : Nat} (hf : 100 ≤ f) (Y : YldF) {h : AHeap} {nx n0 F sb ab vb : Nat} {A : Nat → Prop} {va : Option (Nat × Nat)} {fo : Fo} (w : For h nx A F va fo) (hlow : ∀ x, A x ∨ x = F ∨ ownOf va x → x < n0)
    {k ve : Int} {dv : AV} {p : Option (Nat × Nat)} {v : Vn} (kd : Kd A (lev v.s + 1) h p v.t) (hvs : v.s ≤ 4096)
    (es : h sb = some ⟨[.int .i64 k, .int .i64 ve, .int .i64 0, .int .i64 4096, dv], 5, true⟩) (ea : h ab = some ⟨[.int .i64 0, .int .i64 0, .int .i64 0, .slice none 0 false], 4, true⟩) (ev : h vb = some ⟨[.ptr p, .int .i64 (v.s : Int)], 2, true⟩)
    (ls : n0 ≤ sb ∧ sb < nx) (la : n0 ≤ ab ∧ ab < nx) (lv : n0 ≤ vb ∧ vb < nx) :
    ∃ a c h' nx', F20_J5 (callP Try.prog keepT f) Y f (some (sb, 0)) (some (ab, 0)) (some (vb, 0)) h nx = some (.agg [.int .i64 0, .int .i64 0, .int .i64 (v.s : Int), .slice a v.s c], h', nx') ∧
      For h' nx' A F va fo ∧ Frm (fun i => n0 ≤ i) h nx h' nx' ∧ OwnSl h' nx nx' a v.s 1 (ints .u8 (bytesV v.s v.t)) := by
  have lF := w.lF
  rw [F20_J5_eq]
  simp only [mst_]
  rw [show 0 + 1 = 1 from rfl, show 0 + 2 = 2 from rfl, show 0 + 3 = 3 from rfl, ld_at ev (v := .int .i64 (v.s : Int)) rfl]
  simp only [mst_]
  rw [ldr_all ev (by simp)]
  simp only [mst_]
  rw [ld_at es (v := .int .i64 0) rfl]
  simp only [mst_]
  rw [ld_at es (v := .int .i64 4096) rfl]
  simp only [mst_]
  obtain ⟨a, c, g2, n2, q2, f2, o2⟩ := vread_spec (f := f) (by omega) Y (h := h) (nx := nx + 10) hvs (A := A) (fun x hx => by have := (w.hA x hx).1; omega) kd
  rw [q2]
  simp only [mst_]
  have l2 := f2.1
  have ea2 : g2 ab = some ⟨[.int .i64 0, .int .i64 0, .int .i64 0, .slice none 0 false], 4, true⟩ := (f2.2 ab (by omega)).trans ea
  rw [st_all ea2 (by simp) (by simp) (by simp [allOne, AV.one]), ifKept_pos (by
    simp only [AllKept]
    refine ⟨fun x hx => ?_, trivial⟩
    simp at hx; subst hx
    exact f2.2 _ (by omega)), ldr_all (put_same _ _ _) (by simp)]
  simp only [mst_]
  have w2 : For g2 n2 A F va fo := w.ext ⟨by omega, fun i hi => f2.2 i (by omega)⟩
  refine ⟨a, c, _, _, rfl, w2.putA _ (fun q => by have := hlow ab (.inl q); omega) (fun q => by have := hlow ab (.inr (.inl q)); omega) (fun q => by have := hlow ab (.inr (.inr q)); omega), ⟨by omega, fun i hi hd => ?_⟩, ?_⟩
  · rw [put_ne (fun e => hd (by rw [e]; omega)), f2.2 i (by omega)]
  · have o3 : OwnSl g2 nx n2 a v.s 1 (ints .u8 (bytesV v.s v.t)) := o2.from (by omega)
    refine ⟨o3.1, o3.2.imp id fun ⟨i, e1, e2, e3, e4⟩ => ⟨i, e1, e2, e3, by rw [put_ne (by omega)]; exact e4⟩⟩

end Go.Proofs.Ytogmdfbamgjjfaa.T
