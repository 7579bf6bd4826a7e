/- Snaps: SnapBirths, what its lists say of the keeper; what it reads. -/
import Derived.Test.YtaikceooeahfeaaS13
set_option linter.unusedVariables false
set_option linter.unusedSimpArgs false
namespace Go.Proofs.Ytaikceooeahfeaa.T
open Go Go.RowKit Go.Proofs

def keyS (s : PS) : Int × Int := (s.num, s.made)
structure BI (K : PK) (born : List Int) (T : List (Int × Bool)) : Prop where
  b : born = K.blocks.map fun x => x.1 - 1
  t : K.kept = (T.length : Int)
  s : K.shots.map keyS = liveT T 0

theorem BI.tick {K : PK} {born : List Int} {T : List (Int × Bool)} (w : BI K born T) : BI (tickP K) born T := ⟨w.b, w.t, w.s⟩
theorem map_fst_set {l : List (Int × Bool)} {b : Nat} {x : Int} {y : Bool} (h : l[b]? = some (x, y)) (z : Bool) : (l.set b (x, z)).map (fun x => x.1 - 1) = l.map fun x => x.1 - 1 := by
  obtain ⟨hlt, e⟩ := List.getElem?_eq_some_iff.1 h
  rw [List.map_set]
  apply List.ext_getElem?
  intro i
  rw [List.getElem?_set]
  split
  · rename_i c; subst c; simp [hlt, e]
  · rfl
theorem BI.marked {K : PK} {born : List Int} {T : List (Int × Bool)} (w : BI K born T) {b : Nat} {x : Int} {y : Bool} (h : K.blocks[b]? = some (x, y)) (z : Bool) : BI { tickP K with blocks := K.blocks.set b (x, z) } born T :=
  ⟨by rw [w.b]; exact (map_fst_set h z).symm, w.t, w.s⟩
theorem BI.buried {K : PK} {born : List Int} {T : List (Int × Bool)} (w : BI K born T) {b : Nat} {x : Int} {y : Bool} (h : K.blocks[b]? = some (x, y)) (z : Bool) {s : PS} (hs : K.shots.getLast? = some s) (d : List Int) : BI { tickP K with blocks := K.blocks.set b (x, z), shots := K.shots.set (K.shots.length - 1) ⟨s.num, s.made, d⟩ } born T :=
  ⟨by rw [w.b]; exact (map_fst_set h z).symm, w.t, by
    have hl : K.shots[K.shots.length - 1]? = some s := by rw [← List.getLast?_eq_getElem?]; exact hs
    rw [← w.s]; exact set_key hl d⟩
theorem BI.birth {K : PK} {born : List Int} {T : List (Int × Bool)} (w : BI K born T) : BI { tickP K with blocks := K.blocks ++ [(K.now + 1, true)] } (born ++ [K.now]) T :=
  ⟨by rw [w.b]; show _ = (K.blocks ++ [(K.now + 1, true)]).map _; simp, w.t, w.s⟩
theorem BI.snap {K : PK} {born : List Int} {T : List (Int × Bool)} (w : BI K born T) : BI { tickP K with shots := K.shots ++ [⟨K.kept, K.now + 1, []⟩], kept := K.kept + 1 } born (T ++ [(K.now, true)]) :=
  ⟨w.b, by show K.kept + 1 = ((T ++ [(K.now, true)]).length : Int); rw [w.t]; simp, by
    show (K.shots ++ [(⟨K.kept, K.now + 1, []⟩ : PS)]).map keyS = _
    rw [liveT_app, List.map_append, w.s, if_pos rfl, Nat.zero_add, ← w.t]; rfl⟩
theorem BI.drop {K : PK} {born : List Int} {T : List (Int × Bool)} (w : BI K born T) {i : Nat} {s : PS} (hi : K.shots[i]? = some s) (r : List Int) :
    ∃ j : Nat, s.num = (j : Int) ∧ j < T.length ∧ BI { tickP K with shots := (buryP K.shots (i - 1) r).eraseIdx i } born (T.set j ((T[j]?.map (·.1)).getD 0, false)) := by
  have hk : (liveT T 0)[i]? = some (keyS s) := by rw [← w.s, List.getElem?_map, hi]; rfl
  obtain ⟨j, q1, q2⟩ := liveT_ge hk
  rw [Nat.zero_add] at q1
  refine ⟨j, q1, (List.getElem?_eq_some_iff.1 q2).1, w.b, by rw [List.length_set]; exact w.t, ?_⟩
  show ((buryP K.shots (i - 1) r).eraseIdx i).map keyS = _
  rw [← map_erase, show (buryP K.shots (i - 1) r).map keyS = K.shots.map keyS from bury_key _ _ _, w.s, liveT_drop hk (by rw [Nat.zero_add]; exact q1)]
theorem BI.last {K : PK} {born : List Int} {T : List (Int × Bool)} (w : BI K born T) : lastT T (-1) = match K.shots.getLast? with | none => -1 | some s => s.made - 1 := by
  rw [lastT_live T (-1) 0, ← w.s, List.getLast?_map]
  cases K.shots.getLast? <;> rfl

/-! ### reading -/
section
variable {R : Type} {h h0 : AHeap} {nx n0 : Nat}
theorem ms_read {ma : Option (Nat × Nat)} {ms : List (Int × Int)} (s : Sl h nx ma ms.length 2 (ms.map mrow).flatten) {k : Nat} {m : Int × Int} (hm : ms[k]? = some m) :
    (∀ Kc : AV → Option R, (ma.bind fun p => if 0 ≤ (k : Int) ∧ (k : Int) < ((ms.length : Nat) : Int) then (ldA h p.1 (p.2 + Int.toNat (k : Int) * 2)).bind Kc else none) = Kc (.int .i64 m.1)) ∧
    (∀ Kc : AV → Option R, (ma.bind fun p => if 0 ≤ (k : Int) ∧ (k : Int) < ((ms.length : Nat) : Int) then (ldA h p.1 (p.2 + Int.toNat (k : Int) * 2 + 1)).bind Kc else none) = Kc (.int .i64 m.2)) := by
  have hk := (List.getElem?_eq_some_iff.1 hm).1
  have trow : (ms.map mrow)[k]? = some (mrow m) := by rw [List.getElem?_map, hm]; rfl
  have tfl := fun (fld : Nat) (hf : fld < 2) => flat_get (rows := ms.map mrow) (es := 2) (i := k) (f := fld) (fun r hr => by obtain ⟨u, _, rfl⟩ := List.mem_map.1 hr; rfl) trow hf
  have t0 := tfl 0 (by omega)
  rw [Nat.add_zero] at t0
  exact ⟨fun Kc => s.read0 (by omega) (by omega) (by omega) (by rw [Int.toNat_natCast, t0]; rfl) Kc, fun Kc => s.read (f := 1) (by omega) (by omega) (by omega) (by rw [Int.toNat_natCast, tfl 1 (by omega)]; rfl) Kc⟩

theorem gs_read {A : Nat → Prop} {ga : Option (Nat × Nat)} {gs : List (Int × List Int)} (w : Rows (fun g r => Gon h nx A r g) h nx A ga 2 gs) {k : Nat} {g : Int × List Int} (hg : gs[k]? = some g) :
    ∃ a c, Sl h nx a g.2.length 1 (ints .i64 g.2) ∧ (∀ Kc : AV → Option R, (ga.bind fun p => if 0 ≤ (k : Int) ∧ (k : Int) < ((gs.length : Nat) : Int) then (ldA h p.1 (p.2 + Int.toNat (k : Int) * 2)).bind Kc else none) = Kc (.int .i64 g.1)) ∧
      (∀ Kc : AV → Option R, (ga.bind fun p => if 0 ≤ (k : Int) ∧ (k : Int) < ((gs.length : Nat) : Int) then (ldA h p.1 (p.2 + Int.toNat (k : Int) * 2 + 1)).bind Kc else none) = Kc (.slice a g.2.length c)) := by
  obtain ⟨r, ⟨v, rfl, a, c, rfl, sl, _⟩, _, _, rd⟩ := w.read (R := R) hg
  exact ⟨a, c, sl, fun Kc => rd 0 _ Kc (by omega) rfl, fun Kc => rd 1 _ Kc (by omega) rfl⟩
theorem gs_go {A A' : Nat → Prop} {ga : Option (Nat × Nat)} {gs : List (Int × List Int)} (w : Rows (fun g r => Gon h0 n0 A r g) h0 n0 A ga 2 gs) (x : Ext h0 n0 h nx) (k : ∀ i, i < n0 → A' i → A i) : Rows (fun g r => Gon h nx A' r g) h nx A' ga 2 gs :=
  w.go (D := fun _ => False) (x.fr _) (fun _ _ q => q.elim) k fun g r q => q.go (x.fr fun _ => False) (fun _ _ q => q.elim) k
end

def brw1 (b : Bool) : List AV := [.bool b]

theorem births_last {f lf n0 : Nat} {Y : YldF} {P : Option Res → Prop} {x3a x4a x6a x7a x8a : Option (Nat × Nat)} {x3n x4n x6n : Nat} {x3c x4c x6c x7c x8c : Option Nat} {x9 : Int} {T : List (Int × Bool)} (hT : T.length ≤ 1000) {h : AHeap} {nb : Nat}
    (s7 : Sl h nb x7a T.length 1 ((T.map (·.1)).map one1).flatten) (s8 : Sl h nb x8a T.length 1 ((T.map (·.2)).map brw1).flatten)
    (next : ∀ (n1 nx : Nat), nb ≤ nx → P (F5_L2 (callP Try.prog keepT f) Y lf n0 (n1 + 1) x3a x3n x3c x4a x4n x4c x6a x6n x6c x7a T.length x7c x8a T.length x8c x9 (lastT T (-1)) ((T.length : Nat) : Int) h nx)) (d : Nat) :
    ∀ (n1 j : Nat) (x10 : Int) (nx : Nat), j + d = T.length → d < n1 → lastT (T.drop j) x10 = lastT T (-1) → nb ≤ nx →
      P (F5_L2 (callP Try.prog keepT f) Y lf n0 n1 x3a x3n x3c x4a x4n x4c x6a x6n x6c x7a T.length x7c x8a T.length x8c x9 x10 (j : Int) h nx) := by
  induction d with
  | zero =>
    intro n1 j x10 nx e hl hx hnx
    obtain ⟨n1, rfl⟩ : ∃ m, n1 = m + 1 := ⟨n1 - 1, by omega⟩
    obtain rfl : j = T.length := by omega
    rw [List.drop_length] at hx
    have : x10 = lastT T (-1) := hx
    subst this
    exact next n1 nx hnx
  | succ d ih =>
    intro n1 j x10 nx e hl hx hnx
    obtain ⟨n1, rfl⟩ : ∃ m, n1 = m + 1 := ⟨n1 - 1, by omega⟩
    have hj : j < T.length := by omega
    rw [List.drop_eq_getElem_cons hj, lastT] at hx
    have c7 : (((T.map (·.1)).map one1).flatten)[j]? = some (.int .i64 T[j].1) := by rw [one1_flat]; simp [ints, hj]
    have c8 : (((T.map (·.2)).map brw1).flatten)[j * 1]? = some (.bool T[j].2) := by
      have := flat_get (rows := (T.map (·.2)).map brw1) (es := 1) (i := j) (f := 0) (r := brw1 T[j].2) (fun r hr => by obtain ⟨u, _, rfl⟩ := List.mem_map.1 hr; rfl) (by simp [hj]) (by omega)
      rw [Nat.add_zero] at this
      rw [this]; rfl
    rw [F5_L2_eq, if_pos (decide_eq_true (by omega)), s8.read0 (i := (j : Int)) (v := .bool T[j].2) (by omega) (by omega) (by omega) (by rw [Int.toNat_natCast]; exact c8)]
    simp only [mst_]
    rw [wsucc (i := j) (by omega)]
    cases hb : T[j].2 with
    | true =>
      rw [if_pos rfl, s7.read0 (i := (j : Int)) (v := .int .i64 T[j].1) (by omega) (by omega) (by omega) (by rw [Int.toNat_natCast, Nat.mul_one]; exact c7)]
      simp only [mst_]
      rw [hb, if_pos rfl] at hx
      exact ih n1 (j + 1) _ (nx + 16) (by omega) (by omega) hx (by omega)
    | false =>
      rw [if_neg (by decide)]
      rw [hb, if_neg (by decide)] at hx
      exact ih n1 (j + 1) _ (nx + 11) (by omega) (by omega) hx (by omega)

end Go.Proofs.Ytaikceooeahfeaa.T
