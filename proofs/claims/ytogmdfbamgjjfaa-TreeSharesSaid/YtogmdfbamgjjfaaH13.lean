/- Trees: a step, all of it. -/
import Derived.Test.YtogmdfbamgjjfaaH12
set_option linter.unusedVariables false
set_option linter.unusedSimpArgs false
namespace Go.Proofs.Ytogmdfbamgjjfaa.T
open Go Go.RowKit Go.Proofs

def noV : Vn := ⟨.nil, 0⟩
/-- What a step makes of a forest, and what it answers: version, size, bytes. -/
def stepL (fo : Fo) (st : Stp) : Fo × (Nat × Nat × List Int) :=
  if st.kind = 1 then (⟨fo.vs ++ [⟨(wrV fo.vs.length st.off st.bs (fo.vs.getD st.ver noV) fo.m).1, max (fo.vs.getD st.ver noV).s (st.off + st.bs.length)⟩], (wrV fo.vs.length st.off st.bs (fo.vs.getD st.ver noV) fo.m).2⟩, (fo.vs.length, max (fo.vs.getD st.ver noV).s (st.off + st.bs.length), []))
  else if st.kind = 2 then (⟨fo.vs ++ [⟨(rz fo.vs.length (fo.vs.getD st.ver noV).s st.cnt (fo.vs.getD st.ver noV).t fo.m).1, st.cnt⟩], (rz fo.vs.length (fo.vs.getD st.ver noV).s st.cnt (fo.vs.getD st.ver noV).t fo.m).2⟩, (fo.vs.length, st.cnt, []))
  else (fo, (0, (fo.vs.getD st.ver noV).s, bytesV (fo.vs.getD st.ver noV).s (fo.vs.getD st.ver noV).t))
def StOk (n : Nat) (st : Stp) : Prop := st.ver < n ∧ ((st.kind = 1 ∧ 1 ≤ st.bs.length ∧ st.off + st.bs.length ≤ 4096) ∨ (st.kind = 2 ∧ st.cnt ≤ 4096) ∨ (st.kind = 3 ∧ st.off = 0 ∧ st.cnt = 4096))
structure FoOk (fo : Fo) : Prop where
  ok : ∀ (i : Nat) (v : Vn), fo.vs[i]? = some v → VOk i v
  m : fo.m ≤ 1300 * fo.vs.length
theorem stepL_ok {fo : Fo} (w : FoOk fo) {st : Stp} (ok : StOk fo.vs.length st) : FoOk (stepL fo st).1 := by
  obtain ⟨hv, hk⟩ := ok
  have hg : fo.vs[st.ver]? = some (fo.vs.getD st.ver noV) := by rw [List.getD_eq_getElem?_getD, List.getElem?_eq_getElem hv]; rfl
  have hb := w.ok _ _ hg
  have hm := w.m
  have push : ∀ (u : Vn) (m : Nat), VOk fo.vs.length u → m ≤ fo.m + 1300 → FoOk ⟨fo.vs ++ [u], m⟩ := fun u m hu hm2 => ⟨fun i x hx => by
    simp only at hx
    by_cases c : i < fo.vs.length
    · rw [List.getElem?_append_left c] at hx; exact w.ok i x hx
    · rw [List.getElem?_append_right (by omega)] at hx
      have hi : i - fo.vs.length = 0 := by
        have := (List.getElem?_eq_some_iff.1 hx).1
        simpa using this
      rw [hi] at hx; simp at hx; subst hx
      rw [show i = fo.vs.length by omega]; exact hu, by simp only [List.length_append, List.length_singleton]; omega⟩
  rcases hk with ⟨k1, k2, k3⟩ | ⟨k1, k2⟩ | ⟨k1, _⟩
  · unfold stepL; rw [if_pos k1]
    exact push _ _ (wrV_ok hb (Nat.le_of_lt hv) k2 k3 _) (wrV_le _ _ _ _ _).2
  · unfold stepL; rw [if_neg (by omega), if_pos k1]
    exact push _ _ (rz_ok hb (Nat.le_of_lt hv) k2 _) (rz_le _ _ _ _ _).2
  · unfold stepL; rw [if_neg (by omega), if_neg (by omega)]; exact w

theorem step_spec {f : Nat} (hf : 110 ≤ f) (Y : YldF) {h : AHeap} {nx F : Nat} {A : Nat → Prop} {va : Option (Nat × Nat)} {fo : Fo} (w : For h nx A F va fo) (ok : FoOk fo) (hn : fo.vs.length ≤ 500)
    {st : Stp} (so : StOk fo.vs.length st) {a : Option (Nat × Nat)} {c : Bool} (sl : Sl h nx a st.bs.length 1 (ints .u8 st.bs)) (av : Av (fun i => i = F) a st.bs.length) :
    ∃ sv h' nx' A' va', callP Try.prog keepT f Y 20 [.ptr (some (F, 0)), .agg [.int .i64 (st.kind : Int), .int .i64 (st.ver : Int), .int .i64 (st.off : Int), .int .i64 (st.cnt : Int), .slice a st.bs.length c]] h nx = some (.agg [.int .i64 0, .int .i64 ((stepL fo st).2.1 : Int), .int .i64 ((stepL fo st).2.2.1 : Int), sv], h', nx') ∧
      For h' nx' A' F va' (stepL fo st).1 ∧ Frm (fun i => i = F ∨ ownOf va i) h nx h' nx' ∧ (∀ x, A x → A' x) ∧ (∀ x, A' x → A x ∨ nx ≤ x) ∧ (∀ i, ownOf va' i → ownOf va i ∨ nx ≤ i) ∧ Byt .u8 h' nx' (fun i => i = F ∨ ownOf va' i ∨ i < nx) sv (stepL fo st).2.2.2 := by
  obtain ⟨f, rfl⟩ : ∃ m, f = m + 1 := ⟨f - 1, by omega⟩
  obtain ⟨hver, hk⟩ := so
  obtain ⟨vc, hd⟩ := w.hd
  have lF := w.lF
  have hg : fo.vs[st.ver]? = some (fo.vs.getD st.ver noV) := by rw [List.getD_eq_getElem?_getD, List.getElem?_eq_getElem hver]; rfl
  have hb := ok.ok _ _ hg
  have hm := ok.m
  have lva : ∀ i, ownOf va i → i < nx := fun i q => w.hv.lt q
  have hlow : ∀ x, A x ∨ x = F ∨ ownOf va x → x < nx := fun x hx => by
    rcases hx with q | q | q
    · exact (w.hA x q).1
    · omega
    · exact lva x q
  rw [F20_eq]
  dsimp only
  generalize hh2 : (h.put nx _).put (nx + 1) _ = h2
  have x2 : Ext h nx h2 (nx + 2) := ⟨by omega, fun i hi => by rw [← hh2, put_ne (by omega), put_ne (by omega)]⟩
  have es : h2 nx = some ⟨[.int .i64 (st.kind : Int), .int .i64 (st.ver : Int), .int .i64 (st.off : Int), .int .i64 (st.cnt : Int), .slice a st.bs.length c], 5, true⟩ := by rw [← hh2, put_ne (by omega), put_same]
  have ea : h2 (nx + 1) = some ⟨[.int .i64 0, .int .i64 0, .int .i64 0, .slice none 0 false], 4, true⟩ := by rw [← hh2, put_same]
  have hF2 : h2 F = some ⟨[.slice va fo.vs.length vc, .int .i64 (fo.m : Int)], 2, true⟩ := (x2.2 F lF).trans hd
  have hk3 : 1 ≤ st.kind ∧ st.kind ≤ 3 := by omega
  rw [ld_at es (v := .int .i64 (st.kind : Int)) rfl]
  simp only [mst_]
  rw [if_neg (by rw [decide_eq_true_eq]; omega), ld_at es (v := .int .i64 (st.kind : Int)) rfl]
  simp only [mst_]
  rw [if_neg (by rw [decide_eq_true_eq]; omega), F20_J1_eq]
  simp only [mst_]
  rw [show 0 + 1 = 1 from rfl, ld_at es (v := .int .i64 (st.ver : Int)) rfl]
  simp only [mst_]
  rw [if_neg (by rw [decide_eq_true_eq]; omega), ld_at es (v := .int .i64 (st.ver : Int)) rfl]
  simp only [mst_]
  rw [ld_at hF2 (v := .slice va fo.vs.length vc) rfl]
  simp only [mst_]
  rw [if_neg (by rw [decide_eq_true_eq]; omega), F20_J2_eq]
  simp only [mst_]
  rw [ld_at hF2 (v := .slice va fo.vs.length vc) rfl]
  simp only [mst_]
  rw [show 0 + 1 = 1 from rfl, show 0 + 2 = 2 from rfl, show 0 + 3 = 3 from rfl, show 0 + 4 = 4 from rfl, ld_at es (v := .int .i64 (st.ver : Int)) rfl]
  simp only [mst_]
  -- the version
  obtain ⟨rows, rq, rlen, rs⟩ := w.hv
  rcases rs with ⟨_, e0⟩ | ⟨vb0, rfl, vb1, vb2⟩
  · rw [e0] at hver; simp at hver
  obtain ⟨r, hr, p, rfl, kd⟩ := rq.get _ _ hg
  simp only [mst_]
  have hfl := flat_len rlen
  rw [rq.len] at hfl
  rw [if_pos ⟨by omega, by omega⟩, Int.toNat_natCast, Nat.zero_add, ldr_at ((x2.2 vb0 vb1).trans vb2) (by rw [hfl]; omega), flat_drop rlen hr]
  simp only [mst_]
  rw [st_all (put_same _ _ _) (by simp) (by simp) (by simp [allOne, AV.one]), put_put]
  rw [ifApart_pos (by
    simp only [AllApart]
    refine ⟨fun x hx => ?_, fun x hx => ?_, fun x hx => ?_, trivial⟩ <;> simp at hx ⊢ <;> omega)]
  generalize hh3 : h2.put (nx + 10 + 13 + 8) _ = h3
  have x3 : Ext h nx h3 (nx + 10 + 13 + 9) := ⟨by omega, fun i hi => by rw [← hh3, put_ne (by omega)]; exact x2.2 i hi⟩
  have es3 : h3 nx = some ⟨[.int .i64 (st.kind : Int), .int .i64 (st.ver : Int), .int .i64 (st.off : Int), .int .i64 (st.cnt : Int), .slice a st.bs.length c], 5, true⟩ := by rw [← hh3, put_ne (by omega)]; exact es
  have ea3 : h3 (nx + 1) = some ⟨[.int .i64 0, .int .i64 0, .int .i64 0, .slice none 0 false], 4, true⟩ := by rw [← hh3, put_ne (by omega)]; exact ea
  have ev3 : h3 (nx + 10 + 13 + 8) = some ⟨[.ptr p, .int .i64 ((fo.vs.getD st.ver noV).s : Int)], 2, true⟩ := by rw [← hh3, put_same]
  have w3 : ∀ m, nx + 10 + 13 + 9 ≤ m → For h3 m A F (some (vb0, 0)) fo := fun m hm => w.ext (x3.le hm)
  have kd3 : Kd A (lev (fo.vs.getD st.ver noV).s + 1) h3 p (fo.vs.getD st.ver noV).t := kd.go (fun _ q => q) (fun b hb => x3.2 b (w.hA b hb).1)
  rw [ld_at es3 (v := .int .i64 (st.kind : Int)) rfl]
  simp only [mst_]
  have fin : ∀ {h' : AHeap} {nx' n : Nat}, nx + 10 + 13 + 9 ≤ n → Frm (fun i => i = F ∨ ownOf (some (vb0, 0)) i ∨ nx ≤ i) h3 n h' nx' → Frm (fun i => i = F ∨ ownOf (some (vb0, 0)) i) h nx h' nx' := fun ln fr => ⟨by have := fr.1; omega, fun i hi hd => (fr.2 i (by omega) (fun q => by rcases q with q | q | q; exact hd (.inl q); exact hd (.inr q); omega)).trans (x3.2 i hi)⟩
  have sl3 : Sl h3 nx a st.bs.length 1 (ints .u8 st.bs) := sl.ext ⟨Nat.le_refl _, fun i hi => x3.2 i hi⟩
  rcases hk with ⟨k1, k2, k3⟩ | ⟨k1, k2⟩ | ⟨k1, k2, k3⟩
  · rw [if_pos (by rw [beq_iff_eq]; omega), ld_at es3 (v := .int .i64 (st.off : Int)) rfl]
    simp only [mst_]
    rw [if_neg (by rw [decide_eq_true_eq]; omega), ld_at es3 (v := .slice a st.bs.length c) rfl]
    simp only [mst_]
    rw [if_neg (by rw [beq_iff_eq]; omega), ld_at es3 (v := .int .i64 (st.off : Int)) rfl]
    simp only [mst_]
    rw [ld_at es3 (v := .slice a st.bs.length c) rfl]
    simp only [mst_]
    rw [if_neg (by rw [decide_eq_true_eq, wA (by omega) (by omega)]; omega)]
    obtain ⟨h', nx', A', va', r1, r2, r3, r4, r5, r6⟩ := j3_spec (f := f) (by omega) Y (n0 := nx) (sb := nx) (ab := nx + 1) (vb := nx + 10 + 13 + 8) (w3 (nx + 10 + 13 + 30) (by omega)) hn (by omega) hlow (st := st) (c := c) kd3 (hb.gd.old hver) hb.hs k2 k3 es3 ea3 ev3 (by omega) (by omega) (by omega) (by omega) (by omega) (by omega) sl3 av
    rw [r1]
    unfold stepL; rw [if_pos k1]
    exact ⟨_, h', nx', A', va', rfl, r2, fin (by omega) r3, r4, fun x hx => (r5 x hx).imp id (fun q => by omega), fun i q => .inr (by have := r6 i q; omega), none, false, rfl, ⟨rfl, fun j hj => by simp at hj⟩, Av.none⟩
  · rw [if_neg (by rw [beq_iff_eq]; omega), if_pos (by rw [beq_iff_eq]; omega), ld_at es3 (v := .int .i64 (st.cnt : Int)) rfl]
    simp only [mst_]
    rw [if_neg (by rw [decide_eq_true_eq]; omega), ld_at es3 (v := .int .i64 (st.cnt : Int)) rfl]
    simp only [mst_]
    rw [if_neg (by rw [decide_eq_true_eq]; omega)]
    obtain ⟨h', nx', A', va', r1, r2, r3, r4, r5, r6⟩ := j4s_spec (f := f) (by omega) Y (n0 := nx) (sb := nx) (ab := nx + 1) (vb := nx + 10 + 13 + 8) (w3 (nx + 10 + 13 + 24) (by omega)) hn (by omega) hlow (st := st) kd3 hb.hs k2 es3 ea3 ev3 (by omega) (by omega) (by omega)
    rw [r1]
    unfold stepL; rw [if_neg (by omega), if_pos k1]
    exact ⟨_, h', nx', A', va', rfl, r2, fin (by omega) r3, r4, fun x hx => (r5 x hx).imp id (fun q => by omega), fun i q => .inr (by have := r6 i q; omega), none, false, rfl, ⟨rfl, fun j hj => by simp at hj⟩, Av.none⟩
  · rw [if_neg (by rw [beq_iff_eq]; omega), if_neg (by rw [beq_iff_eq]; omega), ld_at es3 (v := .int .i64 (st.off : Int)) rfl]
    simp only [mst_]
    rw [if_neg (by rw [decide_eq_true_eq]; omega), ld_at es3 (v := .int .i64 (st.cnt : Int)) rfl]
    simp only [mst_]
    rw [if_neg (by rw [decide_eq_true_eq]; omega)]
    obtain ⟨b1, b2, h', nx', r1, r2, r3, r4⟩ := j5_spec (f := f) (by omega) Y (n0 := nx) (sb := nx) (ab := nx + 1) (vb := nx + 10 + 13 + 8) (w3 (nx + 10 + 13 + 24) (by omega)) hlow (dv := .slice a st.bs.length c) kd3 hb.hs (show h3 nx = some ⟨[.int .i64 (st.kind : Int), .int .i64 (st.ver : Int), .int .i64 0, .int .i64 4096, .slice a st.bs.length c], 5, true⟩ by rw [es3, k2, k3]; rfl) ea3 ev3 (by omega) (by omega) (by omega)
    rw [r1]
    unfold stepL; rw [if_neg (by omega), if_neg (by omega)]
    have lb := bytesV_len (fo.vs.getD st.ver noV).s (fo.vs.getD st.ver noV).t
    refine ⟨_, h', nx', A, some (vb0, 0), rfl, r2, fin (n := nx + 10 + 13 + 24) (by omega) (r3.more (fun i _ q => .inr (.inr q))), fun _ q => q, fun _ q => .inl q, fun _ q => .inl q, b1, b2, by rw [lb], by rw [lb]; exact r4.sl, ?_⟩
    rw [lb]
    exact r4.av (fun i i1 i2 q => by
      rcases q with q | q | q
      · omega
      · have := lva i q; omega
      · omega)

end Go.Proofs.Ytogmdfbamgjjfaa.T
