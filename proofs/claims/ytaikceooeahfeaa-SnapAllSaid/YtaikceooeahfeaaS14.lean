/- Snaps: SnapBirths, what its lists say of the keeper; what it reads. -/
import Derived.Test.YtaikceooeahfeaaS13
set_option linter.unusedVariables false
set_option linter.unusedSimpArgs false
namespace Go.Proofs.Ytaikceooeahfeaa.T
open Go Go.RowKit Go.Proofs

def keyS (s : PS) : Int × Int := (s.num, s.made)
structure BI (K : PK) (born : List Int) (T : List (Int × Bool)) : Prop where
  b : born = K.blocks.map fun x => x.1 - 1
  t : K.kept = (T.length : Int)
  s : K.shots.map keyS = liveT T 0

theorem BI.tick {K : PK} {born : List Int} {T : List (Int × Bool)} (w : BI K born T) : BI (tickP K) born T := ⟨w.b, w.t, w.s⟩
theorem BI.birth {K : PK} {born : List Int} {T : List (Int × Bool)} (w : BI K born T) : BI { tickP K with blocks := K.blocks ++ [(K.now + 1, true)] } (born ++ [K.now]) T :=
  ⟨by rw [w.b]; show _ = (K.blocks ++ [(K.now + 1, true)]).map _; simp, w.t, w.s⟩
theorem BI.snap {K : PK} {born : List Int} {T : List (Int × Bool)} (w : BI K born T) : BI { tickP K with shots := K.shots ++ [⟨K.kept, K.now + 1, []⟩], kept := K.kept + 1 } born (T ++ [(K.now, true)]) :=
  ⟨w.b, by show K.kept + 1 = ((T ++ [(K.now, true)]).length : Int); rw [w.t]; simp, by
    show (K.shots ++ [(⟨K.kept, K.now + 1, []⟩ : PS)]).map keyS = _
    rw [liveT_app, List.map_append, w.s, if_pos rfl, Nat.zero_add, ← w.t]; rfl⟩
theorem BI.drop {K : PK} {born : List Int} {T : List (Int × Bool)} (w : BI K born T) {i : Nat} {s : PS} (hi : K.shots[i]? = some s) (r : List Int) :
    ∃ j : Nat, s.num = (j : Int) ∧ j < T.length ∧ BI { tickP K with shots := (buryP K.shots (i - 1) r).eraseIdx i } born (T.set j ((T[j]?.map (·.1)).getD 0, false)) := by
  have hk : (liveT T 0)[i]? = some (keyS s) := by rw [← w.s, List.getElem?_map, hi]; rfl
  obtain ⟨j, q1, q2⟩ := liveT_ge hk
  rw [Nat.zero_add] at q1
  refine ⟨j, q1, (List.getElem?_eq_some_iff.1 q2).1, w.b, by rw [List.length_set]; exact w.t, ?_⟩
  show ((buryP K.shots (i - 1) r).eraseIdx i).map keyS = _
  rw [← map_erase, show (buryP K.shots (i - 1) r).map keyS = K.shots.map keyS from bury_key _ _ _, w.s, liveT_drop hk (by rw [Nat.zero_add]; exact q1)]
/-! ### reading -/
section
variable {R : Type} {h h0 : AHeap} {nx n0 : Nat}
theorem ms_read {ma : Option (Nat × Nat)} {ms : List (Int × Int)} (s : Sl h nx ma ms.length 2 (ms.map mrow).flatten) {k : Nat} {m : Int × Int} (hm : ms[k]? = some m) :
    (∀ Kc : AV → Option R, (ma.bind fun p => if 0 ≤ (k : Int) ∧ (k : Int) < ((ms.length : Nat) : Int) then (ldA h p.1 (p.2 + Int.toNat (k : Int) * 2)).bind Kc else none) = Kc (.int .i64 m.1)) ∧
    (∀ Kc : AV → Option R, (ma.bind fun p => if 0 ≤ (k : Int) ∧ (k : Int) < ((ms.length : Nat) : Int) then (ldA h p.1 (p.2 + Int.toNat (k : Int) * 2 + 1)).bind Kc else none) = Kc (.int .i64 m.2)) := by
  have hk := (List.getElem?_eq_some_iff.1 hm).1
  have trow : (ms.map mrow)[k]? = some (mrow m) := by rw [List.getElem?_map, hm]; rfl
  have tfl := fun (fld : Nat) (hf : fld < 2) => flat_get (rows := ms.map mrow) (es := 2) (i := k) (f := fld) (fun r hr => by obtain ⟨u, _, rfl⟩ := List.mem_map.1 hr; rfl) trow hf
  have t0 := tfl 0 (by omega)
  rw [Nat.add_zero] at t0
  exact ⟨fun Kc => s.read0 (by omega) (by omega) (by omega) (by rw [Int.toNat_natCast, t0]; rfl) Kc, fun Kc => s.read (f := 1) (by omega) (by omega) (by omega) (by rw [Int.toNat_natCast, tfl 1 (by omega)]; rfl) Kc⟩

theorem gs_read {A : Nat → Prop} {ga : Option (Nat × Nat)} {gs : List (Int × List Int)} (w : Rows (fun g r => Gon h nx A r g) h nx A ga 2 gs) {k : Nat} {g : Int × List Int} (hg : gs[k]? = some g) :
    ∃ a c, Sl h nx a g.2.length 1 (ints .i64 g.2) ∧ (∀ Kc : AV → Option R, (ga.bind fun p => if 0 ≤ (k : Int) ∧ (k : Int) < ((gs.length : Nat) : Int) then (ldA h p.1 (p.2 + Int.toNat (k : Int) * 2)).bind Kc else none) = Kc (.int .i64 g.1)) ∧
      (∀ Kc : AV → Option R, (ga.bind fun p => if 0 ≤ (k : Int) ∧ (k : Int) < ((gs.length : Nat) : Int) then (ldA h p.1 (p.2 + Int.toNat (k : Int) * 2 + 1)).bind Kc else none) = Kc (.slice a g.2.length c)) := by
  obtain ⟨r, ⟨v, rfl, a, c, rfl, sl, _⟩, _, _, rd⟩ := w.read (R := R) hg
  exact ⟨a, c, sl, fun Kc => rd 0 _ Kc (by omega) rfl, fun Kc => rd 1 _ Kc (by omega) rfl⟩
theorem gs_go {A A' : Nat → Prop} {ga : Option (Nat × Nat)} {gs : List (Int × List Int)} (w : Rows (fun g r => Gon h0 n0 A r g) h0 n0 A ga 2 gs) (x : Ext h0 n0 h nx) (k : ∀ i, i < n0 → A' i → A i) : Rows (fun g r => Gon h nx A' r g) h nx A' ga 2 gs :=
  w.go (D := fun _ => False) (x.fr _) (fun _ _ q => q.elim) k fun g r q => q.go (x.fr fun _ => False) (fun _ _ q => q.elim) k
end

def brw1 (b : Bool) : List AV := [.bool b]

end Go.Proofs.Ytaikceooeahfeaa.T
