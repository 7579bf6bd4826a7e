/- Snaps: drop. -/
import Derived.Test.YtaikceooeahfeaaS6
set_option linter.unusedVariables false
set_option linter.unusedSimpArgs false
namespace Go.Proofs.Ytaikceooeahfeaa.T
open Go Go.RowKit Go.Proofs

def sortL (l : List Int) : List Int := l.mergeSort fun x y => decide (x ≤ y)
def idxP : List PS → Int → Nat → Int
  | [], _, _ => -1
  | s :: l, x, k => if s.num = x then (k : Int) else idxP l x (k + 1)
theorem idxI_P : ∀ (l : List SR) (x : Int) (k : Nat), idxI l x k = idxP (l.map SR.p) x k
  | [], _, _ => rfl
  | s :: l, x, k => by
    simp only [idxI, List.map_cons, idxP, idxI_P l x (k + 1)]; rfl
theorem idxP_cases : ∀ (l : List PS) (x : Int) (k : Nat), idxP l x k = -1 ∨ ∃ i s, idxP l x k = ((k + i : Nat) : Int) ∧ l[i]? = some s ∧ s.num = x
  | [], _, _ => .inl rfl
  | s :: l, x, k => by
    simp only [idxP]
    split
    · rename_i c; exact .inr ⟨0, s, rfl, rfl, c⟩
    · rcases idxP_cases l x (k + 1) with q | ⟨i, t, q1, q2, q3⟩
      · exact .inl q
      · exact .inr ⟨i + 1, t, by rw [q1]; congr 1; omega, by simpa using q2, q3⟩
def aheadP (l : List PS) (i : Nat) : Int := if i = 0 then -1 else ((l[i - 1]?).map (·.made)).getD 0
def dropP (K : PK) (x : Int) : PK × Int × List Int :=
  if idxP K.shots x 0 < 0 then (K, 6, []) else match K.shots[(idxP K.shots x 0).toNat]? with
  | none => (K, 6, [])
  | some s => ({ K with shots := (buryP K.shots ((idxP K.shots x 0).toNat - 1) (s.dead.filter fun b => !decide (aheadP K.shots (idxP K.shots x 0).toNat < bornOf K.blocks b))).eraseIdx (idxP K.shots x 0).toNat }, 0,
      sortL (s.dead.filter fun b => decide (aheadP K.shots (idxP K.shots x 0).toNat < bornOf K.blocks b)))

theorem map_erase {α β : Type} (f : α → β) : ∀ (l : List α) (i : Nat), (l.map f).eraseIdx i = (l.eraseIdx i).map f
  | [], i => by simp
  | a :: l, 0 => by simp
  | a :: l, i + 1 => by simp [map_erase f l i]

theorem KOk.del {h h' : AHeap} {nx kb : Nat} {K : KR} (w : KOk h nx kb K) {i : Nat} (hi : i < K.shots.length) {c' : Option Nat} (s : Spr h' nx K.sa c' 3 ((K.shots.map SR.row).eraseIdx i)) (ho : ∀ j, ¬ ownOf K.sa j → h' j = h j) :
    h' kb = some ⟨K.cells, 4, true⟩ ∧ KOk (h'.put kb (some ⟨KR.cells { K with shots := K.shots.eraseIdx i, sc := c' }, 4, true⟩)) nx kb { K with shots := K.shots.eraseIdx i, sc := c' } := by
  have f1 : Frm (ownOf K.sa) h nx h' nx := ⟨Nat.le_refl _, fun j _ hj => ho j hj⟩
  have f2 : ∀ b, Frm (fun j => j = kb) h' nx (h'.put kb b) nx := fun b => ⟨Nat.le_refl _, fun j _ hj => put_ne hj⟩
  refine ⟨(ho kb w.a2).trans w.blk, ?_⟩
  exact {
    lt := w.lt
    blk := put_same _ _ _
    bs := (w.bs.go f1 w.a3).go (f2 _) fun j hj q => w.a1 (q ▸ hj)
    ss := by
      rw [← map_erase]
      exact s.go (f2 _) fun j hj q => w.a2 (q ▸ hj)
    ds := fun t ht => by
      have ht' := List.mem_of_mem_eraseIdx ht
      exact ((w.ds t ht').go f1 fun j hj => (w.a4 t ht' j hj).2.2).go (f2 _) fun j hj => (w.a4 t ht' j hj).1
    a1 := w.a1, a2 := w.a2, a3 := w.a3
    a4 := fun t ht => w.a4 t (List.mem_of_mem_eraseIdx ht)
    a5 := w.a5.sublist (List.eraseIdx_sublist _ _) }

theorem sort_orc {h : AHeap} {nx : Nat} {a : Option (Nat × Nat)} {l : List Int} (w : OwnRows (fun x r => r = one1 x) h nx a 1 l) (c : Option Nat) (hl : l.length ≤ 1000) (N : Nat) :
    ∃ h', orcK [1] [.slice a l.length c] h N = some (.tuple [], h', N) ∧ Sl h' nx a l.length 1 (ints .i64 (sortL l)) ∧ ∀ j, ¬ ownOf a j → h' j = h j := by
  have hsl : (sortL l).length = l.length := List.length_mergeSort _
  by_cases cl : l.length = 0
  · have : l = [] := List.eq_nil_of_length_eq_zero cl
    subst this
    exact ⟨h, rfl, ⟨by simp [sortL, ints], fun j hj => by simp at hj⟩, fun _ _ => rfl⟩
  · rcases Gone_rows w with ⟨_, rfl⟩ | ⟨b, rfl, b1, b2⟩
    · simp at cl
    · refine ⟨h.put b (some ⟨ints .i64 (sortL l), 1, true⟩), ?_, ⟨by simp [ints, hsl], fun j hj => ⟨(b, 0), _, rfl, b1, put_same _ _ _, rfl, by simp [ints, hsl], fun q hq => by simp⟩⟩, fun j hj => put_ne fun e => hj ⟨0, by rw [e]⟩⟩
      unfold orcK
      simp only
      rw [if_neg cl]
      simp only [Option.bind_some, b2]
      rw [if_pos (by rw [Bool.and_eq_true]; exact ⟨by simp [ints], by rw [Nat.blt_eq]; have : LB = 4611686018427387904 := rfl; omega⟩)]
      have : intsOf (ints .i64 l) = some l := intsOf_mk l
      rw [this]
      rfl

theorem Gone_lt {h : AHeap} {nx : Nat} {a : Option (Nat × Nat)} {l : List Int} (w : OwnRows (fun x r => r = one1 x) h nx a 1 l) : ∀ i, ownOf a i → i < nx := by
  rintro i ⟨o, rfl⟩
  rcases Gone_rows w with ⟨e, _⟩ | ⟨b, e, b1, _⟩
  · cases e
  · cases e; exact b1

theorem drop_end {f : Nat} (hf : 1 ≤ f) {lf : Nat} {kb nx0 i rb : Nat} {h0 : AHeap} {K0 : KR} {S : SR} {ahead : Int} {h : AHeap} {nx : Nat} {K : KR} {a : Option (Nat × Nat)} (x7c : Option Nat) (n0 : Nat) (hn : K0.shots.length ≤ 500) (hd : S.dead.length ≤ 500)
    (w : DLp kb h0 nx0 K0 S i rb ahead S.dead.length h nx K a) :
    ∃ h' nx' K' v, F13_L2 (callP Try.prog keepT f) Y0 lf (n0 + 1) (some (kb, 0)) (some (rb, 0)) (i : Int) ahead a (S.dead.filter fun b => decide (ahead < bornOf K0.blocks b)).length x7c S.a S.dead.length S.c ((S.dead.length : Nat) : Int) ((S.dead.length : Nat) : Int) h nx = some (.agg [.int .i64 0, v], h', nx') ∧
      KOk h' nx' kb K' ∧ K'.p = { K0.p with shots := (buryP K0.p.shots (i - 1) (S.dead.filter fun b => !decide (ahead < bornOf K0.blocks b))).eraseIdx i } ∧ Byt .i64 h' nx' (fun j => Kown kb K' j ∨ j < nx0) v (sortL (S.dead.filter fun b => decide (ahead < bornOf K0.blocks b))) ∧ Frm (fun j => Kown kb K0 j ∨ j = rb) h0 nx0 h' nx' ∧ ∀ j, Kown kb K' j → Kown kb K0 j ∨ nx0 ≤ j := by
  obtain ⟨f, rfl⟩ : ∃ m, f = m + 1 := ⟨f - 1, by omega⟩
  have hiK : i < K.shots.length := (List.getElem?_eq_some_iff.1 w.here).1
  have hKl : K.shots.length = K0.shots.length := by
    have := congrArg List.length w.shots
    rw [List.length_map] at this
    rw [this]; unfold buryP
    split <;> simp
  have wsh := w.shots
  have wg := w.gone
  rw [List.take_length] at wsh wg
  rw [F13_L2_eq, if_neg (by simp)]
  simp only [mst_]
  rw [ld_at w.ok.blk (v := .slice K.sa K.shots.length K.sc) rfl]
  simp only [mst_]
  have ok1 : KOk h (nx + 13) kb K := w.ok.go (D := fun _ => False) (Frm.le (Frm.refl _ _ _) (by omega)) fun _ _ q => q
  obtain ⟨h1, c1, d1, d2, d3⟩ := delete_spec (f := f + 1) (by omega) Y0 ok1.ss (i := i) (by rw [List.length_map]; exact hiK) (by rw [List.length_map]; omega)
  rw [List.length_map] at d1
  rw [wsucc (i := i) (by omega), d1]
  simp only [mst_]
  obtain ⟨m1, m2⟩ := ok1.del hiK d2 d3
  have glt := Gone_lt w.gone
  have hlen : (K.shots.eraseIdx i).length = K.shots.length - 1 := by rw [List.length_eraseIdx, if_pos hiK]
  rw [st_to m1 (cs' := KR.cells { K with shots := K.shots.eraseIdx i, sc := c1 }) rfl (by show 2 < 4; omega) (by simp only [KR.cells, hlen]; rfl)]
  obtain ⟨K2, hK2⟩ : ∃ K2 : KR, K2 = { K with shots := K.shots.eraseIdx i, sc := c1 } := ⟨_, rfl⟩
  rw [← hK2] at m2 ⊢
  obtain ⟨h2, hh2⟩ : ∃ h2, h2 = h1.put kb (some ⟨K2.cells, 4, true⟩) := ⟨_, rfl⟩
  rw [← hh2] at m2 ⊢
  have own2 : ∀ j, Kown kb K2 j → Kown kb K j := by
    intro j hj
    rw [hK2] at hj
    rcases hj with q | q | q | ⟨s, hs, q⟩
    · exact .inl q
    · exact .inr (.inl q)
    · exact .inr (.inr (.inl q))
    · exact .inr (.inr (.inr ⟨s, List.mem_of_mem_eraseIdx hs, q⟩))
  have f2 : Frm (Kown kb K) h nx h2 nx := ⟨Nat.le_refl _, fun j hj hk => by
    rw [hh2, put_ne (fun q => hk (.inl q))]
    exact d3 j fun q => hk (.inr (.inr (.inl q)))⟩
  have wg2 : OwnRows (fun x r => r = one1 x) h2 nx a 1 (S.dead.filter fun b => decide (ahead < bornOf K0.blocks b)) := wg.go f2 (fun j hj q => (w.own j hj).2.1 q) fun _ _ q => q
  have hfl : (S.dead.filter fun b => decide (ahead < bornOf K0.blocks b)).length ≤ 1000 := Nat.le_trans (List.length_filter_le _ _) (by omega)
  obtain ⟨h3, o1, o2, o3⟩ := sort_orc wg2 x7c hfl (nx + 13 + 29 + 2)
  rw [F17_eq, o1]
  simp only [mst_]
  have k3 : h3 rb = some ⟨[.int .i64 0, .slice none 0 none], 2, true⟩ := by rw [o3 rb (fun q => (w.own rb q).2.2 rfl), f2.2 rb w.rbl w.nrb]; exact w.res
  rw [st_all k3 (n := 2) rfl rfl (by rfl), ldr_all (put_same _ _ _) (n := 2) rfl]
  simp only [mst_]
  have hsl : (sortL (S.dead.filter fun b => decide (ahead < bornOf K0.blocks b))).length = (S.dead.filter fun b => decide (ahead < bornOf K0.blocks b)).length := List.length_mergeSort _
  have f3 : Frm (fun j => ownOf a j ∨ j = rb) h2 (nx + 13) (h3.put rb (some ⟨[.int .i64 0, .slice a (S.dead.filter fun b => decide (ahead < bornOf K0.blocks b)).length x7c], 2, true⟩)) (nx + 13 + 29 + 2 + 3) := ⟨by omega, fun j _ hj => by rw [put_ne (fun q => hj (.inr q))]; exact o3 j fun q => hj (.inl q)⟩
  refine ⟨_, _, K2, .slice a (S.dead.filter fun b => decide (ahead < bornOf K0.blocks b)).length x7c, rfl, m2.go f3 (fun j hj q => ?_), ?_, ⟨a, x7c, by rw [hsl], ?_, fun _ p e q => ?_⟩, ?_, fun j hj => w.new j (own2 j hj)⟩
  · rcases q with q | rfl
    · exact (w.own j q).2.1 (own2 j hj)
    · exact w.nrb (own2 _ hj)
  · rw [hK2]
    show (⟨K.now, K.kept, K.blocks, (K.shots.eraseIdx i).map SR.p⟩ : PK) = _
    rw [← map_erase, wsh, w.now, w.kept, w.blocks]
    rfl
  · rw [hsl]
    exact Sl.fr (D := fun j => j = rb) o2 (fun _ p e q => (w.own p.1 ⟨p.2, by rw [e]⟩).2.2 q) ⟨by omega, fun j _ hj => put_ne hj⟩
  · rcases q with q | q
    · exact (w.own p.1 ⟨p.2, by rw [e]⟩).2.1 (own2 _ q)
    · have := (w.own p.1 ⟨p.2, by rw [e]⟩).1; omega
  · have g1 : Frm (Kown kb K0) h0 nx0 h2 nx := w.frm.trans f2 fun j hj q => by
      rcases w.new j q with z | z
      · exact z
      · omega
    exact (g1.more fun j _ q => .inl q).trans (D1 := fun j => ownOf a j ∨ j = rb) ⟨by omega, fun j hj hk => f3.2 j (by omega) hk⟩ fun j hj q => by
      rcases q with q | q
      · have := (w.own j q).1; omega
      · exact .inr q

theorem drop_spec {f : Nat} (hf : 1100 ≤ f) {h : AHeap} {nx kb : Nat} {K : KR} (w : KOk h nx kb K) (x1 : Int) (hs : K.shots.length ≤ 500) (hd : ∀ s ∈ K.shots, s.dead.length ≤ 500) (hb : ∀ s ∈ K.shots, ∀ b ∈ s.dead, 0 ≤ b ∧ b.toNat < K.blocks.length) (hB : ∀ x ∈ K.blocks, 0 ≤ x.1) : Did kb h nx K (dropP K.p x1) (callP Try.prog keepT f Y0 13 [.ptr (some (kb, 0)), .int .i64 x1] h nx) := by
  obtain ⟨f, rfl⟩ : ∃ m, f = m + 1 := ⟨f - 1, by omega⟩
  have lk := w.lt
  rw [F13_eq]
  dsimp only
  obtain ⟨h1, hh1⟩ : ∃ h1, h1 = (h.put nx (some ⟨[.int .i64 x1], 1, true⟩)).put (nx + 1) (some ⟨[.int .i64 0, .slice none 0 none], 2, true⟩) := ⟨_, rfl⟩
  rw [← hh1]
  have e0 : h1 nx = some ⟨[.int .i64 x1], 1, true⟩ := by rw [hh1, put_ne (by omega), put_same]
  have e1 : h1 (nx + 1) = some ⟨[.int .i64 0, .slice none 0 none], 2, true⟩ := by rw [hh1, put_same]
  have x01 : Ext h nx h1 (nx + 2) := ⟨by omega, fun i hi => by rw [hh1, put_ne (by omega), put_ne (by omega)]⟩
  have w1 : KOk h1 (nx + 2) kb K := w.go (D := fun _ => False) (x01.fr _) fun _ _ q => q
  have wlt := w.own_lt
  simp only [mst_]
  rw [ld_at w1.blk (v := .slice K.sa K.shots.length K.sc) rfl]
  simp only [mst_]
  have ssl : Sl h1 (nx + 9) K.sa K.shots.length 3 (K.shots.map SR.row).flatten := by
    have := w1.ss.sl
    rw [List.length_map] at this
    exact this.ext ⟨by omega, fun _ _ => rfl⟩
  obtain ⟨h2, n2, r1, r2⟩ := idx_spec (f := f) (by omega) Y0 K.sc (l := K.shots) (by omega) (cb := nx) (x := x1) (nx := nx + 9) (by omega) e0 ssl
  rw [r1]
  simp only [mst_]
  have l2 := r2.1
  have k2 : h2 (nx + 1) = some ⟨[.int .i64 0, .slice none 0 none], 2, true⟩ := by rw [r2.2 _ (by omega)]; exact e1
  have x02 : Ext h nx h2 n2 := ⟨by omega, fun i hi => by rw [r2.2 i (by omega)]; exact x01.2 i hi⟩
  have w2 : KOk h2 n2 kb K := w.go (D := fun _ => False) (x02.fr _) fun _ _ q => q
  unfold dropP
  rw [idxI_P]
  have hpsh : K.p.shots = K.shots.map SR.p := rfl
  rw [hpsh]
  rcases idxP_cases (K.shots.map SR.p) x1 0 with hi | ⟨i, s, hi, hs1, hs2⟩
  · rw [hi]
    rw [if_pos (show ((-1 : Int) < 0) by omega), if_pos (show decide ((-1 : Int) < 0) = true from rfl)]
    obtain ⟨h3, p1, p2⟩ := no_spec (f := f) (by omega) Y0 6 h2 (n2 + 4)
    rw [p1]
    simp only [mst_]
    have k3 : h3 (nx + 1) = some ⟨[.int .i64 0, .slice none 0 none], 2, true⟩ := by rw [p2.2 _ (by omega)]; exact k2
    rw [st_all k3 (n := 2) rfl rfl (by rfl), ldr_all (put_same _ _ _) (n := 2) rfl]
    simp only [mst_]
    have x : Ext h nx (h3.put (nx + 1) (some ⟨[.int .i64 6, .slice none 0 none], 2, true⟩)) (n2 + 4 + 4) := ⟨by omega, fun i hi => by rw [put_ne (by omega), p2.2 i (by omega), x02.2 i hi]⟩
    exact ⟨_, _, K, _, rfl, w.go (D := fun _ => False) (x.fr _) fun _ _ q => q, rfl, Gon.nil _ _ _ _, x.fr _, fun i hi => .inl hi⟩
  · rw [Nat.zero_add] at hi
    rw [hi]
    have hiK : i < K.shots.length := by have := (List.getElem?_eq_some_iff.1 hs1).1; rwa [List.length_map] at this
    obtain ⟨S, hS⟩ : ∃ S, K.shots[i]? = some S := ⟨_, List.getElem?_eq_getElem hiK⟩
    have hSm := List.mem_of_getElem? hS
    have hsp : s = S.p := by rw [List.getElem?_map, hS] at hs1; exact (Option.some.inj hs1).symm
    subst hsp
    rw [if_neg (show ¬ ((i : Int) < 0) by omega), if_neg (show ¬ decide ((i : Int) < 0) = true by rw [decide_eq_true_eq]; omega), Int.toNat_natCast, hs1]
    simp only
    -- behind the choice
    have rest : ∀ (N : Nat) (ahead : Int), n2 ≤ N → ahead = aheadP (K.shots.map SR.p) i → 
        Did kb h nx K ({ K.p with shots := (buryP (K.shots.map SR.p) (i - 1) (S.p.dead.filter fun b => !decide (ahead < bornOf K.p.blocks b))).eraseIdx i }, 0, sortL (S.p.dead.filter fun b => decide (ahead < bornOf K.p.blocks b)))
          (F13_J1 (callP Try.prog keepT f) Y0 f (some (kb, 0)) (some (nx + 1, 0)) (i : Int) ahead h2 N) := by
      intro N ahead hN ha
      rw [F13_J1_eq]
      simp only [mst_]
      rw [ld_at w2.blk (v := .slice K.sa K.shots.length K.sc) rfl]
      simp only [mst_]
      have ss2 := w2.ss.sl
      rw [List.length_map] at ss2
      have srow : (K.shots.map SR.row)[i]? = some S.row := by rw [List.getElem?_map, hS]; rfl
      have sfl := flat_get (rows := K.shots.map SR.row) (es := 3) (i := i) (f := 2) w2.ss.1 srow (by omega)
      rw [ss2.read (i := (i : Int)) (f := 2) (v := .slice S.a S.dead.length S.c) (by omega) (by omega) (by omega) (by rw [Int.toNat_natCast, sfl]; rfl)]
      simp only [mst_]
      have nk : ¬ Kown kb K (nx + 1) := fun q => by have := wlt _ q; omega
      have st : DLp kb h2 (N + 11) K S i (nx + 1) ahead 0 h2 (N + 11) K none := {
        ok := w2.go (D := fun _ => False) (Frm.le (Frm.refl _ _ _) (by omega)) fun _ _ q => q
        now := rfl, kept := rfl, blocks := rfl
        shots := by rw [List.take_zero, List.filter_nil, buryP_nil]
        here := hS
        gone := by rw [List.take_zero, List.filter_nil]; exact OwnRows.nil _ _ _ _
        own := fun j ⟨o, e⟩ => by cases e
        frm := Frm.refl _ _ _
        new := fun j hj => .inl hj
        nrb := nk
        res := k2
        rbl := by omega }
      have fin := drop_loop (f := f) (lf := f) (Y := Y0) (c := none) (P := fun r => Did kb h nx K ({ K.p with shots := (buryP (K.shots.map SR.p) (i - 1) (S.p.dead.filter fun b => !decide (ahead < bornOf K.p.blocks b))).eraseIdx i }, 0, sortL (S.p.dead.filter fun b => decide (ahead < bornOf K.p.blocks b))) r) (hb S hSm) (hd S hSm) (fun e0 b hbm => by
          have q := hb S hSm b hbm
          have hbx : K.blocks[b.toNat]? = some K.blocks[b.toNat] := List.getElem?_eq_getElem q.2
          have := hB _ (List.getElem_mem q.2)
          rw [ha]
          unfold aheadP bornOf
          rw [if_pos e0, hbx]
          show -1 < K.blocks[b.toNat].1
          omega) hiK hs hd (fun n0 x7c h3 n3 K3 a w3 => by
          obtain ⟨h4, n4, K4, v, z1, z2, z3, z4, z5, z6⟩ := drop_end (f := f) (by omega) (lf := f) x7c n0 hs (hd S hSm) w3
          rw [z1]
          refine ⟨h4, n4, K4, _, rfl, z2, z3, ⟨v, rfl, by obtain ⟨y1, y2, y3, y4, y5⟩ := z4; exact ⟨y1, y2, y3, y4, y5.less fun j q => q.imp id (by omega)⟩⟩, ?_, fun j hj => ?_⟩
          · refine (x02.fr (Kown kb K)).trans (D1 := fun j => Kown kb K j ∨ j = nx + 1) ⟨by have := z5.1; omega, fun j hj hk => z5.2 j (by omega) hk⟩ fun j hj q => ?_
            rcases q with q | q
            · exact q
            · omega
          · rcases z6 j hj with q | q
            · exact .inl q
            · exact .inr (by omega)) S.dead.length f 0 none h2 (N + 11) K none (by omega) (by have := hd S hSm; omega) st
      rw [List.take_zero, List.filter_nil, List.length_nil] at fin
      exact fin
    by_cases c0 : i = 0
    · rw [if_neg (by rw [decide_eq_true_eq]; omega)]
      have ha : (-1 : Int) = aheadP (K.shots.map SR.p) i := by unfold aheadP; rw [if_pos c0]
      rw [← ha]
      exact rest (n2 + 5) (-1) (by omega) ha
    · rw [if_pos (decide_eq_true (by omega))]
      rw [ld_at w2.blk (v := .slice K.sa K.shots.length K.sc) rfl]
      simp only [mst_]
      have hwr : wrapA .i64 ((i : Int) - 1) = ((i - 1 : Nat) : Int) := wpred c0 (by omega)
      rw [hwr]
      obtain ⟨T, hT⟩ : ∃ T, K.shots[i - 1]? = some T := ⟨_, List.getElem?_eq_getElem (by omega)⟩
      have ss2 := w2.ss.sl
      rw [List.length_map] at ss2
      have trow : (K.shots.map SR.row)[i - 1]? = some T.row := by rw [List.getElem?_map, hT]; rfl
      have tfl := flat_get (rows := K.shots.map SR.row) (es := 3) (i := i - 1) (f := 1) w2.ss.1 trow (by omega)
      rw [ss2.read (i := ((i - 1 : Nat) : Int)) (f := 1) (v := .int .i64 T.made) (by omega) (by omega) (by omega) (by rw [Int.toNat_natCast, tfl]; rfl)]
      simp only [mst_]
      have ha : T.made = aheadP (K.shots.map SR.p) i := by unfold aheadP; rw [if_neg c0, List.getElem?_map, hT]; rfl
      rw [← ha]
      exact rest (n2 + 15) T.made (by omega) ha

end Go.Proofs.Ytaikceooeahfeaa.T
