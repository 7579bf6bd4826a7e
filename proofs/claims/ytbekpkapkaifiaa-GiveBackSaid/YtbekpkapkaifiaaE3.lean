/- A space in memory: take. -/
import Derived.Test.YtbekpkapkaifiaaE2
set_option linter.unusedVariables false
set_option linter.unusedSimpArgs false
namespace Go.Proofs.Ytbekpkapkaifiaa.T
open Go Go.RowKit Go.Proofs

theorem Spc.free' {h : AHeap} {nx sp ub : Nat} {la : Option (Nat × Nat)} {s : SP} (w : Spc h nx sp ub la s) (fr : Int) :
    ∃ b, (∀ {R : Type} (K : ABlk → Option R), (stA h sp (0 + 1) (.int .i64 fr) 1).bind K = K b) ∧ Spc (h.put sp (some b)) nx sp ub la ⟨s.u, fr, s.log⟩ ∧ Frm (fun i => i = sp) h nx (h.put sp (some b)) nx := by
  obtain ⟨c, lc, e⟩ := w.hd
  have f : Frm (fun i => i = sp) h nx (h.put sp (some ⟨[.slice (some (ub, 0)) s.u.length c, .int .i64 fr, .slice la s.log.length lc], 3, true⟩)) nx := (Frm.refl _ h nx).put (.inl rfl) (Nat.le_refl _)
  exact ⟨_, fun K => by rw [st_to e rfl (by simp) (cs' := [.slice (some (ub, 0)) s.u.length c, .int .i64 fr, .slice la s.log.length lc]) rfl], ⟨⟨c, lc, put_same _ _ _⟩, (f.2 _ w.lu (fun q => w.ne q.symm)).trans w.hu, w.hl.go f (fun i q => (w.nl i q).1) (fun _ _ q => q), w.ls, w.lu, w.ne, w.nl⟩, f⟩

theorem Spc.push {h : AHeap} {nx sp ub : Nat} {la : Option (Nat × Nat)} {s : SP} (w : Spc h nx sp ub la s) (hl : s.log.length ≤ 2000000) (r : Bool × Int × Int) {id id2 : Nat} (h1 : nx ≤ id) (h2 : id < id2) :
    ∃ lc, (∀ {R : Type} (K : AV → Option R), (ldA h sp (0 + 2)).bind K = K (.slice la s.log.length lc)) ∧ ∃ e b, srcS (h.put id (some ⟨[.bool r.1, .int .i64 r.2.1, .int .i64 r.2.2], 3, true⟩)) (some (id, 0)) 1 3 = some (1, [.bool r.1, .int .i64 r.2.1, .int .i64 r.2.2], [id]) ∧
      appD (h.put id (some ⟨[.bool r.1, .int .i64 r.2.1, .int .i64 r.2.2], 3, true⟩)) la s.log.length lc 3 24 id2 (1, [.bool r.1, .int .i64 r.2.1, .int .i64 r.2.2], [id]) = some e ∧
      (∀ {R : Type} (K : ABlk → Option R), (stA ((h.put id (some ⟨[.bool r.1, .int .i64 r.2.1, .int .i64 r.2.2], 3, true⟩)).puts e.sets) sp (0 + 2) (.slice e.a e.n e.c) 1).bind K = K b) ∧
      Spc (((h.put id (some ⟨[.bool r.1, .int .i64 r.2.1, .int .i64 r.2.2], 3, true⟩)).puts e.sets).put sp (some b)) (id2 + 1) sp ub e.a ⟨s.u, s.free, s.log ++ [r]⟩ ∧
      Frm (fun i => i = sp ∨ ownOf la i) h nx (((h.put id (some ⟨[.bool r.1, .int .i64 r.2.1, .int .i64 r.2.2], 3, true⟩)).puts e.sets).put sp (some b)) (id2 + 1) ∧ ∀ i, ownOf e.a i → i = id2 := by
  obtain ⟨c, lc, e0⟩ := w.hd
  have ls := w.ls; have lu := w.lu
  obtain ⟨e, p1, p2, p3, p4, p5, p6, _⟩ := w.hl.push lc (bytes := 24) (id := id) (id2 := id2) (x := r) (r := [.bool r.1, .int .i64 r.2.1, .int .i64 r.2.2]) rfl rfl (growOk_of (by omega) (by omega)) h1 h2
  have esp : ((h.put id (some ⟨[.bool r.1, .int .i64 r.2.1, .int .i64 r.2.2], 3, true⟩)).puts e.sets) sp = _ := (p6.2 sp ls (fun q => (w.nl _ q).1 rfl)).trans e0
  have own2 : ∀ i, ownOf e.a i → i = id2 := fun i q => by rw [p3] at q; obtain ⟨o, q⟩ := q; simp only [Option.some.injEq, Prod.mk.injEq] at q; exact q.1.symm
  refine ⟨lc, fun K => by rw [ld_at e0 (v := .slice la s.log.length lc) rfl], e, _, p1, p2, fun K => by rw [p4, Nat.zero_add, st_to esp rfl (by simp) (cs' := [.slice (some (ub, 0)) s.u.length c, .int .i64 s.free, .slice e.a (s.log.length + 1) e.c]) rfl], ?_, (p6.more fun _ _ q => .inr q).put (.inl (.inl rfl)) (Nat.le_refl _), own2⟩
  refine ⟨⟨c, e.c, by rw [put_same]; simp⟩, ?_, p5.go (D := fun i => i = sp) ((Frm.refl _ _ _).put (.inl rfl) (Nat.le_refl _)) (fun i q => by have := own2 i q; omega) (fun _ _ q => q), by omega, by omega, w.ne, fun i q => by have := own2 i q; omega⟩
  exact (put_ne (fun q => w.ne q.symm)).trans ((p6.2 ub lu (fun q => (w.nl _ q).2 rfl)).trans w.hu)

def findL (n : Nat) : List Int → Nat → Nat → Option Nat
  | [], _, _ => none
  | x :: xs, k, cnt => if (if x = 0 then cnt + 1 else 0) = n then some (k + 1) else findL n xs (k + 1) (if x = 0 then cnt + 1 else 0)
def takeS (s : SP) (n : Int) : SP × (Int × Int) :=
  if n < 1 ∨ n > s.u.length then (s, (2, 0)) else
  match findL n.toNat s.u 0 0 with
  | none => (s, (8, 0))
  | some e => (⟨setR 1 s.u (e - n.toNat) n.toNat, s.free - n, s.log ++ [(false, (e : Int) - n, (e : Int))]⟩, (0, (e : Int) - n))

def TS3 (sp ub : Nat) (la : Option (Nat × Nat)) : Nat → Prop := fun i => i = sp ∨ i = ub ∨ ownOf la i
/-- What a deed leaves. -/
def DeedR (h : AHeap) (nx sp ub : Nat) (la : Option (Nat × Nat)) (s' : SP) (h' : AHeap) (nx' : Nat) : Prop :=
  ∃ la', Spc h' nx' sp ub la' s' ∧ Frm (TS3 sp ub la) h nx h' nx' ∧ ∀ i, ownOf la' i → ownOf la i ∨ nx ≤ i

theorem take_place {f : Nat} {Y : YldF} {h : AHeap} {nx sp ub rb : Nat} {la : Option (Nat × Nat)} {s : SP} (w : Spc h nx sp ub la s) (hu : s.u.length ≤ 100000) (hl : s.log.length ≤ 2000000) (hf : s.u.length + 3 ≤ f) (hfr : -1000000 ≤ s.free ∧ s.free ≤ 1000000) (erb : h rb = some ⟨[.int .i64 0, .int .i64 0, .int .i64 0], 3, true⟩) (lr : rb < nx) (nr : rb ≠ sp ∧ rb ≠ ub ∧ ¬ ownOf la rb)
    {n k : Nat} (hn : 1 ≤ n) (hk : n ≤ k + 1) (hk2 : k < s.u.length) {lf : Nat} {xa : Option (Nat × Nat)} {xn : Nat} {xc : Bool} {x25 x26 : Int} :
    ∃ h' nx' la', F51_J3 (callP Try.prog keepT f) Y f lf (some (sp, 0)) (n : Int) (some (rb, 0)) (n : Int) (k : Int) xa xn xc x25 x26 h nx = some (.agg [.int .i64 0, .int .i64 (((k + 1 : Nat) : Int) - (n : Int)), .int .i64 0], h', nx') ∧
      Spc h' nx' sp ub la' ⟨setR 1 s.u (k + 1 - n) n, s.free - n, s.log ++ [(false, ((k + 1 : Nat) : Int) - (n : Int), ((k + 1 : Nat) : Int))]⟩ ∧ Frm (fun i => TS3 sp ub la i ∨ i = rb) h nx h' nx' ∧ ∀ i, ownOf la' i → ownOf la i ∨ nx ≤ i := by
  have ls := w.ls; have lu := w.lu
  obtain ⟨fr, efr⟩ : ∃ fr : Nat, k + 1 - n = fr := ⟨_, rfl⟩
  have e1 : ((k + 1 : Nat) : Int) - (n : Int) = (fr : Int) := by omega
  rw [F51_J3_eq, if_pos (by simp)]
  simp only [bind_some', asI_int, asB_bool, asStr_str, asP_ptr, asSl_sl, asAgg_1, asAgg_2, asAgg_3, asAgg_4, asTup_0, asTup_2, asTup_3, asTup_4, if_true', if_false', if_not_true', if_not_false', getD_0, getD_1, getD_2, getD_3]
  rw [st_all (put_same h (nx + 10) _) (by simp) (by simp) (by simp [allOne, AV.one]), put_put]
  rw [ldr_all (put_same h (nx + 10) _) (by simp)]
  simp only [bind_some', asI_int, asB_bool, asStr_str, asP_ptr, asSl_sl, asAgg_1, asAgg_2, asAgg_3, asAgg_4, asTup_0, asTup_2, asTup_3, asTup_4, if_true', if_false', if_not_true', if_not_false', getD_0, getD_1, getD_2, getD_3]
  rw [wsucc (by omega), show wrapA .i64 (((k + 1 : Nat) : Int) - (n : Int)) = (fr : Int) by rw [e1]; exact wA (by omega) (by omega), e1]
  have x1 : Ext h nx (h.put (nx + 10) (some ⟨[.int .i64 (fr : Int), .int .i64 ((k + 1 : Nat) : Int)], 2, true⟩)) (nx + 15) := ⟨by omega, fun i hi => put_ne (by omega)⟩
  have e10 := put_same h (nx + 10) (some ⟨[.int .i64 (fr : Int), .int .i64 ((k + 1 : Nat) : Int)], 2, true⟩)
  generalize h.put (nx + 10) (some ⟨[.int .i64 (fr : Int), .int .i64 ((k + 1 : Nat) : Int)], 2, true⟩) = h1 at *
  obtain ⟨h2, n2, g1, g2, g3⟩ := set_spec (f := f) (Y := Y) (w.ext x1) (a := fr) (b := k + 1) (by omega) (by omega) hu hf 1
  rw [g1]
  simp only [bind_some', asI_int, asB_bool, asStr_str, asP_ptr, asSl_sl, asAgg_1, asAgg_2, asAgg_3, asAgg_4, asTup_0, asTup_2, asTup_3, asTup_4, if_true', if_false', if_not_true', if_not_false', getD_0, getD_1, getD_2, getD_3]
  have l2 := g2.1
  obtain ⟨c2, lc2, e2⟩ := g3.hd
  rw [ld_at e2 (v := .int .i64 s.free) rfl]
  simp only [bind_some', asI_int, asB_bool, asStr_str, asP_ptr, asSl_sl, asAgg_1, asAgg_2, asAgg_3, asAgg_4, asTup_0, asTup_2, asTup_3, asTup_4, if_true', if_false', if_not_true', if_not_false', getD_0, getD_1, getD_2, getD_3]
  obtain ⟨b3, q1, q2, q3⟩ := g3.free' (s.free - n)
  rw [show wrapA .i64 (s.free - (n : Int)) = s.free - (n : Int) from wA (by omega) (by omega), q1]
  have e10' : (h2.put sp (some b3)) (nx + 10) = _ := (q3.2 _ (by omega) (by omega)).trans ((g2.2 (nx + 10) (by omega) (by omega)).trans e10)
  have erb' : (h2.put sp (some b3)) rb = _ := (q3.2 _ (by omega) nr.1).trans ((g2.2 rb (by omega) nr.2.1).trans ((x1.2 rb lr).trans erb))
  have fr3 : Frm (fun i => i = sp ∨ i = ub) h nx (h2.put sp (some b3)) n2 := ((x1.fr _).trans (g2.more fun _ _ q => .inr q) (fun _ _ q => q)).trans (q3.more fun _ _ q => .inl q) (fun _ _ q => q)
  generalize h2.put sp (some b3) = h3 at *
  obtain ⟨lc, r1, e4, b4, r2, r3, r4, r5, r6, r7⟩ := q2.push (by simpa using hl) (false, (fr : Int), ((k + 1 : Nat) : Int)) (id := n2 + 16) (id2 := n2 + 17) (by omega) (by omega)
  rw [r1]
  simp only [bind_some', asI_int, asB_bool, asStr_str, asP_ptr, asSl_sl, asAgg_1, asAgg_2, asAgg_3, asAgg_4, asTup_0, asTup_2, asTup_3, asTup_4, if_true', if_false', if_not_true', if_not_false', getD_0, getD_1, getD_2, getD_3]
  rw [ldr_all e10' (by simp)]
  simp only [bind_some', asI_int, asB_bool, asStr_str, asP_ptr, asSl_sl, asAgg_1, asAgg_2, asAgg_3, asAgg_4, asTup_0, asTup_2, asTup_3, asTup_4, if_true', if_false', if_not_true', if_not_false', getD_0, getD_1, getD_2, getD_3]
  rw [r2]
  simp only [bind_some', asI_int, asB_bool, asStr_str, asP_ptr, asSl_sl, asAgg_1, asAgg_2, asAgg_3, asAgg_4, asTup_0, asTup_2, asTup_3, asTup_4, if_true', if_false', if_not_true', if_not_false', getD_0, getD_1, getD_2, getD_3]
  rw [r3]
  simp only [bind_some', asI_int, asB_bool, asStr_str, asP_ptr, asSl_sl, asAgg_1, asAgg_2, asAgg_3, asAgg_4, asTup_0, asTup_2, asTup_3, asTup_4, if_true', if_false', if_not_true', if_not_false', getD_0, getD_1, getD_2, getD_3]
  rw [r4]
  have aa : AllApart [([n2 + 16], [sp])] := ⟨fun x hx hx2 => by simp only [List.mem_singleton] at hx hx2; omega, trivial⟩
  rw [ifApart_pos aa]
  have e10'' := (r6.2 (nx + 10) (by omega) (fun q => by rcases q with q | q; omega; have := w.hl.lt q; omega)).trans e10'
  have erb'' := (r6.2 rb (by omega) (fun q => by rcases q with q | q; exact nr.1 q; exact nr.2.2 q)).trans erb'
  generalize (((h3.put (n2 + 16) (some ⟨[.bool false, .int .i64 (fr : Int), .int .i64 ((k + 1 : Nat) : Int)], 3, true⟩)).puts e4.sets).put sp (some b4)) = h5 at *
  rw [ld_at e10'' (v := .int .i64 (fr : Int)) rfl]
  simp only [bind_some', asI_int, asB_bool, asStr_str, asP_ptr, asSl_sl, asAgg_1, asAgg_2, asAgg_3, asAgg_4, asTup_0, asTup_2, asTup_3, asTup_4, if_true', if_false', if_not_true', if_not_false', getD_0, getD_1, getD_2, getD_3]
  rw [st_all erb'' (by simp) (by simp) (by simp [allOne, AV.one])]
  rw [ldr_all (put_same _ rb _) (by simp)]
  simp only [bind_some', asI_int, asB_bool, asStr_str, asP_ptr, asSl_sl, asAgg_1, asAgg_2, asAgg_3, asAgg_4, asTup_0, asTup_2, asTup_3, asTup_4, if_true', if_false', if_not_true', if_not_false', getD_0, getD_1, getD_2, getD_3]
  have f5 : Frm (fun i => i = rb) h5 (n2 + 17 + 1) (h5.put rb (some ⟨[.int .i64 0, .int .i64 (fr : Int), .int .i64 0], 3, true⟩)) (n2 + 25) := (Frm.refl _ _ _).put (.inl rfl) (by omega)
  refine ⟨_, _, e4.a, rfl, ?_, ?_, fun i q => .inr (by have := r7 i q; omega)⟩
  · obtain ⟨c5, lc5, e5⟩ := r5.hd
    rw [show k + 1 - fr = n by omega] at e5 r5
    rw [efr]
    exact ⟨⟨c5, lc5, (put_ne (fun q => nr.1 q.symm)).trans e5⟩, (put_ne (fun q => nr.2.1 q.symm)).trans r5.hu, r5.hl.go f5 (fun i q => by have := r7 i q; omega) (fun _ _ q => q), by omega, by omega, r5.ne, r5.nl⟩
  · exact ((fr3.more fun i _ q => by rcases q with q | q; exact .inl (.inl q); exact .inl (.inr (.inl q))).trans (r6.more fun i _ q => by rcases q with q | q; exact .inl (.inl q); exact .inl (.inr (.inr q))) (fun _ _ q => q)).put (.inl (.inr rfl)) (by omega)

end Go.Proofs.Ytbekpkapkaifiaa.T
