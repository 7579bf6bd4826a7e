/- Trees: the forest; add. -/
import Derived.Test.YtogmdfbamgjjfaaH8
set_option linter.unusedVariables false
set_option linter.unusedSimpArgs false
namespace Go.Proofs.Ytogmdfbamgjjfaa.T
open Go Go.RowKit Go.Proofs

structure Vn where
  t : Tr
  s : Nat
structure Fo where
  vs : List Vn
  m : Nat
/-- A step that is done: 1 write, 2 resize, 3 read of all. -/
structure Stp where
  kind : Nat
  ver : Nat
  off : Nat
  cnt : Nat
  bs : List Int

def StepR (h : AHeap) (nx : Nat) (A : Nat → Prop) (s : Stp) (r : List AV) : Prop :=
  ∃ v, r = [.int .i64 (s.kind : Int), .int .i64 (s.ver : Int), .int .i64 (s.off : Int), .int .i64 (s.cnt : Int), v] ∧ Byt .u8 h nx A v s.bs
theorem StepR.go {h h' : AHeap} {nx nx' : Nat} {A A' D : Nat → Prop} {s : Stp} {r : List AV} (w : StepR h nx A s r) (f : Frm D h nx h' nx') (d : ∀ i, i < nx → D i → A i) (g : ∀ i, i < nx → A' i → A i) : StepR h' nx' A' s r := by
  obtain ⟨v, e, b⟩ := w
  exact ⟨v, e, b.go f d g⟩
def VerR (h : AHeap) (A : Nat → Prop) (v : Vn) (r : List AV) : Prop := ∃ p, r = [.ptr p, .int .i64 (v.s : Int)] ∧ Kd A (lev v.s + 1) h p v.t
theorem VerR.go {h h' : AHeap} {A A' : Nat → Prop} {v : Vn} {r : List AV} (w : VerR h A v r) (k : ∀ b, A b → A' b) (f : ∀ b, A b → h' b = h b) : VerR h' A' v r := by
  obtain ⟨p, e, q⟩ := w
  exact ⟨p, e, q.go k f⟩

structure For (h : AHeap) (nx : Nat) (A : Nat → Prop) (F : Nat) (va : Option (Nat × Nat)) (fo : Fo) : Prop where
  hd : ∃ c, FrB h F va fo.vs.length c fo.m
  hv : OwnRows (VerR h A) h nx va 2 fo.vs
  lF : F < nx
  nF : ¬ ownOf va F
  hA : ∀ x, A x → x < nx ∧ x ≠ F ∧ ¬ ownOf va x
/-- What stands where nothing turns but fresh blocks. -/
theorem For.ext {h h' : AHeap} {nx nx' : Nat} {A : Nat → Prop} {F : Nat} {va : Option (Nat × Nat)} {fo : Fo} (w : For h nx A F va fo) (x : Ext h nx h' nx') : For h' nx' A F va fo := by
  obtain ⟨c, e⟩ := w.hd
  have := w.lF
  exact ⟨⟨c, (x.2 _ w.lF).trans e⟩, w.hv.go (D := fun _ => False) ⟨x.1, fun i hi _ => x.2 i hi⟩ (fun _ _ q => q) (fun _ _ r => r.go (fun _ q => q) (fun b hb => x.2 b (w.hA b hb).1)), by have := x.1; omega, w.nF, fun y hy => ⟨by have := (w.hA y hy).1; have := x.1; omega, (w.hA y hy).2⟩⟩

theorem own_some {i b o : Nat} (w : ownOf (some (b, o)) i) : i = b := by
  obtain ⟨o, q⟩ := w
  simp only [Option.some.injEq, Prod.mk.injEq] at q; exact q.1.symm
theorem no_own {i : Nat} (q : ownOf none i) : False := by obtain ⟨o, e⟩ := q; cases e
theorem OwnRows.lt {α : Type} {Q : α → List AV → Prop} {h : AHeap} {nx : Nat} {a : Option (Nat × Nat)} {es : Nat} {l : List α} (w : OwnRows Q h nx a es l) {i : Nat} (hi : ownOf a i) : i < nx := by
  obtain ⟨rows, _, _, s⟩ := w
  obtain ⟨o, e⟩ := hi
  rcases s with ⟨e', _⟩ | ⟨b, e', b1, _⟩
  · rw [e'] at e; simp at e
  · rw [e'] at e; simp only [Option.some.injEq, Prod.mk.injEq] at e; omega

theorem add_spec {f : Nat} (hf : 1 ≤ f) (Y : YldF) {h : AHeap} {nx F : Nat} {A : Nat → Prop} {va : Option (Nat × Nat)} {fo : Fo} (w : For h nx A F va fo) (hn : fo.vs.length ≤ 1000) {p : Option (Nat × Nat)} {v : Vn} (kd : Kd A (lev v.s + 1) h p v.t) :
    ∃ va' h' nx', callP Try.prog keepT f Y 23 [.ptr (some (F, 0)), .agg [.ptr p, .int .i64 (v.s : Int)]] h nx = some (.agg [.int .i64 0, .int .i64 (fo.vs.length : Int), .int .i64 (v.s : Int), .slice none 0 false], h', nx') ∧
      Frm (fun i => i = F ∨ ownOf va i) h nx h' nx' ∧ For h' nx' A F va' ⟨fo.vs ++ [v], fo.m⟩ ∧ ∀ i, ownOf va' i → nx ≤ i := by
  obtain ⟨f, rfl⟩ : ∃ m, f = m + 1 := ⟨f - 1, by omega⟩
  obtain ⟨c, hd⟩ := w.hd
  have lF := w.lF
  rw [F23_eq]
  dsimp only
  generalize hh2 : (h.put nx _).put (nx + 1) _ = h2
  have x2 : ∀ i, i < nx → h2 i = h i := fun i hi => by rw [← hh2, put_ne (by omega), put_ne (by omega)]
  have e0 : h2 nx = some ⟨[.ptr p, .int .i64 (v.s : Int)], 2, true⟩ := by rw [← hh2, put_ne (by omega), put_same]
  have e1 : h2 (nx + 1) = some ⟨[.int .i64 0, .int .i64 0, .int .i64 0, .slice none 0 false], 4, true⟩ := by rw [← hh2, put_same]
  have hF2 : h2 F = some ⟨[.slice va fo.vs.length c, .int .i64 (fo.m : Int)], 2, true⟩ := (x2 F lF).trans hd
  simp only [mst_]
  rw [ld_at hF2 (v := .slice va fo.vs.length c) rfl]
  simp only [mst_]
  rw [ldr_all e0 (by simp)]
  simp only [mst_]
  have w2 : OwnRows (VerR h2 A) h2 (nx + 2) va 2 fo.vs := w.hv.go (D := fun _ => False) ⟨by omega, fun i hi _ => x2 i hi⟩ (fun _ _ q => q) (fun _ _ r => r.go (fun _ q => q) (fun b hb => x2 b (w.hA b hb).1))
  have vr : VerR h2 A v [.ptr p, .int .i64 (v.s : Int)] := ⟨p, rfl, kd.go (fun _ q => q) (fun b hb => x2 b (w.hA b hb).1)⟩
  obtain ⟨e, p1, p2, p3, p4, p5, p6, p7, p8⟩ := w2.push c (bytes := 16) (id := nx + 8) (id2 := nx + 9) rfl vr (growOk_of (by omega) (by omega)) (by omega) (by omega)
  rw [p1]
  simp only [mst_]
  rw [p2]
  simp only [mst_]
  have lva : ∀ i, ownOf va i → i < nx := fun i q => w.hv.lt q
  rw [p3] at p5
  generalize hh3 : (h2.put (nx + 8) (some ⟨[.ptr p, .int .i64 (v.s : Int)], 2, true⟩)).puts e.sets = h3 at *
  have x3 : ∀ i, i ≠ nx + 8 → i ≠ nx + 9 → ¬ ownOf va i → h3 i = h2 i := fun i a b d => by
    rw [← hh3, puts_get _ _ (fun q => by rcases p8 i q with q | q; exact d q; exact b q), put_ne a]
  have hF3 : h3 F = some ⟨[.slice va fo.vs.length c, .int .i64 (fo.m : Int)], 2, true⟩ := (x3 F (by omega) (by omega) w.nF).trans hF2
  rw [st_to hF3 (cs' := [.slice e.a e.n e.c, .int .i64 (fo.m : Int)]) rfl (by simp) rfl, ifApart_pos (by simp only [AllApart]; refine ⟨fun x hx => ?_, trivial⟩; simp at hx ⊢; omega), p3, p4]
  have hF4 : (h3.put F (some ⟨[.slice (some (nx + 9, 0)) (fo.vs.length + 1) e.c, .int .i64 (fo.m : Int)], 2, true⟩)) F = some ⟨[.slice (some (nx + 9, 0)) (fo.vs.length + 1) e.c, .int .i64 (fo.m : Int)], 2, true⟩ := put_same _ _ _
  have x4 : ∀ i, i ≠ F → (h3.put F (some ⟨[.slice (some (nx + 9, 0)) (fo.vs.length + 1) e.c, .int .i64 (fo.m : Int)], 2, true⟩)) i = h3 i := fun i hi => put_ne hi
  generalize h3.put F (some ⟨[.slice (some (nx + 9, 0)) (fo.vs.length + 1) e.c, .int .i64 (fo.m : Int)], 2, true⟩) = h4 at *
  have f0 : h4 nx = some ⟨[.ptr p, .int .i64 (v.s : Int)], 2, true⟩ := (x4 _ (by omega)).trans ((x3 _ (by omega) (by omega) (fun q => by have := lva _ q; omega)).trans e0)
  have f1 : h4 (nx + 1) = some ⟨[.int .i64 0, .int .i64 0, .int .i64 0, .slice none 0 false], 4, true⟩ := (x4 _ (by omega)).trans ((x3 _ (by omega) (by omega) (fun q => by have := lva _ q; omega)).trans e1)
  rw [ld_at hF4 (v := .slice (some (nx + 9, 0)) (fo.vs.length + 1) e.c) rfl]
  simp only [mst_]
  rw [ld_at f0 (v := .int .i64 (v.s : Int)) rfl]
  simp only [mst_]
  rw [show wrapA .i64 (((fo.vs.length + 1 : Nat) : Int) - 1) = (fo.vs.length : Int) by rw [wA (by omega) (by omega)]; omega]
  rw [st_all f1 (by simp) (by simp) (by simp [allOne, AV.one]), ldr_all (put_same _ _ _) (by simp)]
  simp only [mst_]
  have keep : ∀ i, i < nx → i ≠ F → ¬ ownOf va i → h4.put (nx + 1) (some ⟨[.int .i64 0, .int .i64 (fo.vs.length : Int), .int .i64 (v.s : Int), .slice none 0 false], 4, true⟩) i = h i := fun i hi a b => by
    rw [put_ne (by omega), x4 i a, x3 i (by omega) (by omega) b, x2 i hi]
  refine ⟨some (nx + 9, 0), _, _, rfl, ⟨by omega, fun i hi q => keep i hi (fun e => q (.inl e)) (fun e => q (.inr e))⟩, ⟨⟨e.c, ?_⟩, ?_, by omega, fun q => by have := own_some q; omega, fun x hx => ?_⟩, fun i q => by have := own_some q; omega⟩
  · unfold FrB; rw [put_ne (by omega)]; simpa using hF4
  · refine p5.go (D := fun i => i = F ∨ i = nx + 1) ⟨by omega, fun i hi q => ?_⟩ (fun i q => by have := own_some q; omega) (fun x r q => q.go (fun _ z => z) (fun b hb => ?_))
    · rw [put_ne (fun e => q (.inr e)), x4 i (fun e => q (.inl e))]
    · have hb' := w.hA b hb
      rw [keep b hb'.1 hb'.2.1 hb'.2.2, x2 b hb'.1]
  · have := w.hA x hx
    exact ⟨by omega, this.2.1, fun q => by have := own_some q; omega⟩

end Go.Proofs.Ytogmdfbamgjjfaa.T
