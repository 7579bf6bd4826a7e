/- Snaps: drop, its loop over the dead. -/
import Derived.Test.YtaikceooeahfeaaS5
set_option linter.unusedVariables false
set_option linter.unusedSimpArgs false
namespace Go.Proofs.Ytaikceooeahfeaa.T
open Go Go.RowKit Go.Proofs

def bornOf (bs : List (Int × Bool)) (b : Int) : Int := ((bs[b.toNat]?).map (·.1)).getD 0
def buryP (l : List PS) (j : Nat) (r : List Int) : List PS := match l[j]? with
  | some t => l.set j ⟨t.num, t.made, t.dead ++ r⟩
  | none => l
theorem buryP_nil (l : List PS) (j : Nat) : buryP l j [] = l := by
  unfold buryP
  split
  · rename_i t h
    rw [List.append_nil]
    obtain ⟨hlt, rfl⟩ := List.getElem?_eq_some_iff.1 h
    exact List.set_getElem_self hlt
  · rfl
theorem buryP_more {l : List PS} {j : Nat} (h : j < l.length) (r : List Int) (x : Int) : ∃ t, (buryP l j r)[j]? = some t ∧ buryP l j (r ++ [x]) = (buryP l j r).set j ⟨t.num, t.made, t.dead ++ [x]⟩ := by
  have hj : l[j]? = some l[j] := List.getElem?_eq_getElem h
  refine ⟨⟨l[j].num, l[j].made, l[j].dead ++ r⟩, ?_, ?_⟩
  · unfold buryP; rw [hj]; simp only; rw [List.getElem?_set_self h]
  · unfold buryP; rw [hj]; simp only; rw [List.set_set, List.append_assoc]

theorem fil_pos {p : Int → Bool} {x : Int} (l : List Int) (h : p x = true) : (l ++ [x]).filter p = l.filter p ++ [x] := by simp [h]
theorem fil_neg {p : Int → Bool} {x : Int} (l : List Int) (h : ¬ p x = true) : (l ++ [x]).filter p = l.filter p := by simp [h]
theorem Gone_rows {h : AHeap} {nx : Nat} {a : Option (Nat × Nat)} {l : List Int} (w : OwnRows (fun x r => r = one1 x) h nx a 1 l) : (a = none ∧ l = []) ∨ ∃ b, a = some (b, 0) ∧ b < nx ∧ h b = some ⟨ints .i64 l, 1, true⟩ := by
  obtain ⟨rows, q, _, s⟩ := w
  have e : ∀ (l : List Int) (rows : List (List AV)), All2 (fun (x : Int) r => r = one1 x) l rows → rows.flatten = ints .i64 l := by
    intro l
    induction l with
    | nil => intro rows q; simp only [All2] at q; subst q; rfl
    | cons x l ih => intro rows q; obtain ⟨y, r, rfl, rfl, q⟩ := q; rw [List.flatten_cons, ih r q]; rfl
  rcases s with s | ⟨b, e1, e2, e3⟩
  · exact .inl s
  · exact .inr ⟨b, e1, e2, by rw [e3, e l rows q]⟩

/-- The state of the loop. -/
structure DLp (kb : Nat) (h0 : AHeap) (nx0 : Nat) (K0 : KR) (S : SR) (i rb : Nat) (ahead : Int) (k : Nat) (h : AHeap) (nx : Nat) (K : KR) (a : Option (Nat × Nat)) : Prop where
  ok : KOk h nx kb K
  now : K.now = K0.now
  kept : K.kept = K0.kept
  blocks : K.blocks = K0.blocks
  shots : K.shots.map SR.p = buryP (K0.shots.map SR.p) (i - 1) ((S.dead.take k).filter fun b => !decide (ahead < bornOf K0.blocks b))
  here : K.shots[i]? = some S
  gone : OwnRows (fun x r => r = one1 x) h nx a 1 ((S.dead.take k).filter fun b => decide (ahead < bornOf K0.blocks b))
  own : ∀ j, ownOf a j → nx0 ≤ j ∧ ¬ Kown kb K j ∧ j ≠ rb
  frm : Frm (Kown kb K0) h0 nx0 h nx
  new : ∀ j, Kown kb K j → Kown kb K0 j ∨ nx0 ≤ j
  nrb : ¬ Kown kb K rb
  res : h rb = some ⟨[.int .i64 0, .slice none 0 none], 2, true⟩
  rbl : rb < nx

theorem drop_loop {f lf : Nat} {Y : YldF} {P : Option Res → Prop} {kb nx0 i rb : Nat} {h0 : AHeap} {K0 : KR} {S : SR} {ahead : Int} {c : Option Nat}
    (hd : ∀ b ∈ S.dead, 0 ≤ b ∧ b.toNat < K0.blocks.length) (h1000 : S.dead.length ≤ 500) (hi0 : i = 0 → ∀ b ∈ S.dead, ahead < bornOf K0.blocks b) (hiN : i < K0.shots.length) (hN : K0.shots.length ≤ 500) (hdl : ∀ s ∈ K0.shots, s.dead.length ≤ 500)
    (next : ∀ (n0 : Nat) (x7c : Option Nat) (h : AHeap) (nx : Nat) (K : KR) (a : Option (Nat × Nat)), DLp kb h0 nx0 K0 S i rb ahead S.dead.length h nx K a →
      P (F13_L2 (callP Try.prog keepT f) Y lf (n0 + 1) (some (kb, 0)) (some (rb, 0)) (i : Int) ahead a (S.dead.filter fun b => decide (ahead < bornOf K0.blocks b)).length x7c S.a S.dead.length S.c ((S.dead.length : Nat) : Int) ((S.dead.length : Nat) : Int) h nx)) (d : Nat) :
    ∀ (n0 k : Nat) (x7c : Option Nat) (h : AHeap) (nx : Nat) (K : KR) (a : Option (Nat × Nat)), k + d = S.dead.length → d < n0 → DLp kb h0 nx0 K0 S i rb ahead k h nx K a →
      P (F13_L2 (callP Try.prog keepT f) Y lf n0 (some (kb, 0)) (some (rb, 0)) (i : Int) ahead a ((S.dead.take k).filter fun b => decide (ahead < bornOf K0.blocks b)).length x7c S.a S.dead.length S.c ((S.dead.length : Nat) : Int) (k : Int) h nx) := by
  induction d with
  | zero =>
    intro n0 k x7c h nx K a e hl w
    obtain ⟨n0, rfl⟩ : ∃ m, n0 = m + 1 := ⟨n0 - 1, by omega⟩
    obtain rfl : k = S.dead.length := by omega
    have := next n0 x7c h nx K a w
    rw [List.take_length]
    exact this
  | succ d ih =>
    intro n0 k x7c h nx K a e hl w
    obtain ⟨n0, rfl⟩ : ∃ m, n0 = m + 1 := ⟨n0 - 1, by omega⟩
    have hk : k < S.dead.length := by omega
    have hm : S ∈ K.shots := List.mem_of_getElem? w.here
    have wd := w.ok.ds S hm
    have dsl := wd.sl
    rw [List.length_map, one1_flat] at dsl
    have hx := hd S.dead[k] (List.getElem_mem hk)
    have htake : S.dead.take (k + 1) = S.dead.take k ++ [S.dead[k]] := List.take_succ_eq_append_getElem hk
    rw [F13_L2_eq, if_pos (decide_eq_true (by omega)), dsl.read0 (i := (k : Int)) (v := .int .i64 S.dead[k]) (by omega) (by omega) (by omega) (by rw [Int.toNat_natCast, Nat.mul_one]; simp [ints, hk])]
    simp only [mst_]
    rw [ld_at w.ok.blk (v := .slice K.ba K.blocks.length K.bc) rfl]
    simp only [mst_]
    obtain ⟨x, hxx⟩ : ∃ x : Nat, S.dead[k] = (x : Int) := ⟨S.dead[k].toNat, by omega⟩
    have hxl : x < K.blocks.length := by rw [w.blocks]; omega
    have hbx : K.blocks[x]? = some K.blocks[x] := List.getElem?_eq_getElem hxl
    have brw : (K.blocks.map brow)[x]? = some (brow K.blocks[x]) := by rw [List.getElem?_map, hbx]; rfl
    have bfl := flat_get (rows := K.blocks.map brow) (es := 2) (i := x) (f := 0) w.ok.bs.1 brw (by omega)
    rw [Nat.add_zero] at bfl
    have bsl := w.ok.bs.sl
    rw [List.length_map] at bsl
    have hborn : bornOf K0.blocks S.dead[k] = K.blocks[x].1 := by unfold bornOf; rw [hxx, Int.toNat_natCast, ← w.blocks, hbx]; rfl
    rw [bsl.read0 (i := S.dead[k]) (v := .int .i64 K.blocks[x].1) (by omega) (by omega) (by omega) (by rw [hxx, Int.toNat_natCast, bfl]; rfl)]
    simp only [mst_]
    rw [wsucc (i := k) (by omega)]
    by_cases cb : ahead < K.blocks[x].1
    · rw [if_pos (decide_eq_true cb)]
      have hq : decide (ahead < bornOf K0.blocks S.dead[k]) = true := by rw [hborn]; exact decide_eq_true cb
      have hglen : ((S.dead.take k).filter fun b => decide (ahead < bornOf K0.blocks b)).length ≤ 500 := Nat.le_trans (List.length_filter_le _ _) (by rw [List.length_take]; omega)
      obtain ⟨e12, q1, q2, q3, q4, q5, q6, _, _⟩ := w.gone.push x7c (bytes := 8) (id := nx + 16) (id2 := nx + 17) (r := one1 S.dead[k]) rfl rfl (growOk_of (by omega) (by omega)) (by omega) (by omega)
      unfold one1 at q1 q2
      rw [q1]
      simp only [mst_]
      rw [q2]
      simp only [mst_]
      have own12 : ∀ j, ownOf e12.a j → j = nx + 17 := fun j ⟨o, e⟩ => by rw [q3] at e; cases e; rfl
      have hlist : (S.dead.take (k + 1)).filter (fun b => decide (ahead < bornOf K0.blocks b)) = (S.dead.take k).filter (fun b => decide (ahead < bornOf K0.blocks b)) ++ [S.dead[k]] := by rw [htake]; exact fil_pos (p := fun b => decide (ahead < bornOf K0.blocks b)) _ hq
      have hlist2 : (S.dead.take (k + 1)).filter (fun b => !decide (ahead < bornOf K0.blocks b)) = (S.dead.take k).filter (fun b => !decide (ahead < bornOf K0.blocks b)) := by rw [htake]; exact fil_neg (p := fun b => !decide (ahead < bornOf K0.blocks b)) _ (by simp only [hq]; decide)
      have hen : e12.n = ((S.dead.take (k + 1)).filter fun b => decide (ahead < bornOf K0.blocks b)).length := by rw [q4, hlist]; simp
      rw [hen]
      have klt := w.ok.own_lt
      refine ih n0 (k + 1) e12.c _ (nx + 21) K e12.a (by omega) (by omega) { ok := w.ok.go q6 (fun j hj q => (w.own j q).2.1 hj) |>.go (D := fun _ => False) (Frm.le (Frm.refl _ _ _) (by omega)) fun _ _ q => q, now := w.now, kept := w.kept, blocks := w.blocks, shots := by rw [hlist2]; exact w.shots, here := w.here, gone := ?_, own := fun j hj => ?_, frm := ?_, new := w.new, nrb := w.nrb, res := ?_, rbl := by have := w.rbl; omega }
      · rw [hlist]
        exact q5.go (D := fun _ => False) (Frm.le (Frm.refl _ _ _) (by omega)) (fun _ _ q => q) (fun _ _ q => q)
      · have := own12 j hj
        have := w.frm.1
        have := w.rbl
        exact ⟨by omega, fun q => by have := klt j q; omega, by omega⟩
      · refine w.frm.trans (D1 := ownOf a) ⟨by have := q6.1; omega, q6.2⟩ fun j hj q => ?_
        have := (w.own j q).1; omega
      · exact (q6.2 rb w.rbl (fun q => (w.own rb q).2.2 rfl)).trans w.res
    · have hq : ¬ decide (ahead < bornOf K0.blocks S.dead[k]) = true := by rw [hborn, decide_eq_true_eq]; exact cb
      have hipos : i ≠ 0 := fun e => cb (by have := hi0 e S.dead[k] (List.getElem_mem hk); rw [hborn] at this; exact this)
      have hKl : K.shots.length = K0.shots.length := by
        have := congrArg List.length w.shots
        rw [List.length_map] at this
        rw [this]; unfold buryP
        split <;> simp
      have hj1 : i - 1 < K.shots.length := by omega
      obtain ⟨T, hT⟩ : ∃ T, K.shots[i - 1]? = some T := ⟨_, List.getElem?_eq_getElem hj1⟩
      rw [if_neg (by rw [decide_eq_true_eq]; exact cb)]
      rw [ld_at w.ok.blk (v := .slice K.sa K.shots.length K.sc) rfl]
      simp only [mst_]
      rw [ld_at w.ok.blk (v := .slice K.sa K.shots.length K.sc) rfl]
      simp only [mst_]
      have hwr : wrapA .i64 ((i : Int) - 1) = ((i - 1 : Nat) : Int) := wpred hipos (by omega)
      rw [hwr]
      -- the list of the one ahead is not long
      obtain ⟨t, ht1, ht2⟩ := buryP_more (l := K0.shots.map SR.p) (j := i - 1) (by rw [List.length_map]; omega) ((S.dead.take k).filter fun b => !decide (ahead < bornOf K0.blocks b)) S.dead[k]
      have hTp : T.p = t := by
        rw [← w.shots, List.getElem?_map, hT] at ht1
        exact Option.some.inj ht1
      have hTd : T.dead.length ≤ 1000 := by
        have h1 : (K0.shots.map SR.p)[i - 1]? = some (K0.shots[i - 1]'(by omega)).p := by rw [List.getElem?_map, List.getElem?_eq_getElem (by omega)]; rfl
        have h2 := ht1
        unfold buryP at h2
        rw [h1] at h2
        simp only at h2
        rw [List.getElem?_set_self (by rw [List.length_map]; omega)] at h2
        have h3 := Option.some.inj h2
        rw [← hTp] at h3
        have h4 : T.dead = (K0.shots[i - 1]'(by omega)).dead ++ (S.dead.take k).filter fun b => !decide (ahead < bornOf K0.blocks b) := by
          have := congrArg PS.dead h3; exact this.symm
        rw [h4, List.length_append]
        have h5 := hdl _ (List.getElem_mem (show i - 1 < K0.shots.length by omega))
        have h6 : ((S.dead.take k).filter fun b => !decide (ahead < bornOf K0.blocks b)).length ≤ k := Nat.le_trans (List.length_filter_le _ _) (by rw [List.length_take]; omega)
        omega
      obtain ⟨e25, sb, b28, g1, g2, g3, g4, g5, g6, g7, g8⟩ := w.ok.bury (R := Res) hT S.dead[k] (id := nx + 30) (id2 := nx + 31) (by omega) (by omega) hTd
      have trow : (K.shots.map SR.row)[i - 1]? = some T.row := by rw [List.getElem?_map, hT]; rfl
      rw [g1]
      simp only [mst_]
      rw [if_pos ⟨by omega, by omega⟩, Int.toNat_natCast, w.ok.ss.cell g1 (i := i - 1) (f := 2) trow (by omega) (v := .slice T.a T.dead.length T.c) rfl]
      simp only [mst_]
      rw [g2]
      simp only [mst_]
      rw [g3]
      simp only [mst_]
      rw [if_pos ⟨by omega, by omega⟩, g4]
      have klt := w.ok.lt
      have sbl : sb < nx := w.ok.ss.lt sb ⟨0, by rw [g1]⟩
      rw [ifApart_pos (by
        simp only [AllApart]
        refine ⟨fun y hy => ?_, fun y hy => ?_, fun y hy => ?_, fun y hy => ?_, trivial⟩
        · simp at hy ⊢; omega
        · have := g7 y hy
          simp only [List.mem_singleton]
          rcases this with q | q
          · exact (w.ok.a4 T (List.mem_of_getElem? hT) y q).1
          · omega
        · simp at hy ⊢; omega
        · simp at hy ⊢; omega)]
      generalize (((h.put (nx + 30) (some ⟨[.int .i64 S.dead[k]], 1, true⟩)).puts e25.sets).put sb (some b28)) = h29 at *
      have hlist : (S.dead.take (k + 1)).filter (fun b => decide (ahead < bornOf K0.blocks b)) = (S.dead.take k).filter (fun b => decide (ahead < bornOf K0.blocks b)) := by rw [htake]; exact fil_neg (p := fun b => decide (ahead < bornOf K0.blocks b)) _ hq
      have hlist2 : (S.dead.take (k + 1)).filter (fun b => !decide (ahead < bornOf K0.blocks b)) = (S.dead.take k).filter (fun b => !decide (ahead < bornOf K0.blocks b)) ++ [S.dead[k]] := by
        have hq2 : (!decide (ahead < bornOf K0.blocks S.dead[k])) = true := by simpa using hq
        rw [htake]; exact fil_pos (p := fun b => !decide (ahead < bornOf K0.blocks b)) _ hq2
      obtain ⟨K2, hK2⟩ : ∃ K2 : KR, K2 = { K with shots := K.shots.set (i - 1) ⟨T.num, T.made, T.dead ++ [S.dead[k]], e25.a, e25.c⟩ } := ⟨_, rfl⟩
      rw [← hK2] at g5
      have own2 : ∀ j, Kown kb K2 j → Kown kb K j ∨ j = nx + 31 := by
        intro j hj
        rw [hK2] at hj
        rcases hj with q | q | q | ⟨s, hs', q⟩
        · exact .inl (.inl q)
        · exact .inl (.inr (.inl q))
        · exact .inl (.inr (.inr (.inl q)))
        · rcases List.mem_or_eq_of_mem_set hs' with hs' | rfl
          · exact .inl (.inr (.inr (.inr ⟨s, hs', q⟩)))
          · rcases g8 j q with q | q
            · exact .inl (.inr (.inr (.inr ⟨T, List.mem_of_getElem? hT, q⟩)))
            · exact .inr q
      have goneL : ∀ j, ownOf a j → j < nx := fun j hj => by
        obtain ⟨rows, _, _, s⟩ := w.gone
        rcases s with ⟨rfl, _⟩ | ⟨b, rfl, b1, _⟩
        · obtain ⟨o, q⟩ := hj; cases q
        · obtain ⟨o, q⟩ := hj; cases q; exact b1
      rw [← hlist]
      refine ih n0 (k + 1) x7c h29 (nx + 37) K2 a (by omega) (by omega) { ok := g5.go (D := fun _ => False) (Frm.le (Frm.refl _ _ _) (by omega)) fun _ _ q => q, now := by rw [hK2]; exact w.now, kept := by rw [hK2]; exact w.kept, blocks := by rw [hK2]; exact w.blocks, shots := ?_, here := ?_, gone := ?_, own := fun j hj => ?_, frm := ?_, new := fun j hj => ?_, nrb := fun q => ?_, res := ?_, rbl := by have := w.rbl; omega }
      · rw [hlist2, ht2, ← w.shots, hK2]
        show (K.shots.set (i - 1) _).map SR.p = _
        rw [List.map_set]
        congr 1
        rw [← hTp]; rfl
      · rw [hK2]
        show (K.shots.set (i - 1) _)[i]? = some S
        rw [List.getElem?_set_ne (by omega)]; exact w.here
      · rw [hlist]
        exact w.gone.go (D := Kown kb K) ⟨by omega, fun j hj hk => g6.2 j hj hk⟩ (fun j hj q => (w.own j hj).2.1 q) (fun _ _ q => q)
      · obtain ⟨z1, z2, z3⟩ := w.own j hj
        exact ⟨z1, fun q => by rcases own2 j q with q | q; exact z2 q; have := goneL j hj; omega, z3⟩
      · refine w.frm.trans (D1 := Kown kb K) ⟨by omega, fun j hj hk => g6.2 j hj hk⟩ fun j hj q => ?_
        rcases w.new j q with z | z
        · exact z
        · omega
      · rcases own2 j hj with q | q
        · exact w.new j q
        · have := w.frm.1; exact .inr (by omega)
      · rcases own2 rb q with q | q
        · exact w.nrb q
        · have := w.rbl; omega
      · rw [g6.2 rb w.rbl w.nrb]; exact w.res

end Go.Proofs.Ytaikceooeahfeaa.T
