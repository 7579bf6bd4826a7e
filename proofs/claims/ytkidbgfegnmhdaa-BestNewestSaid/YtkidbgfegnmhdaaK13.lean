/- Labels: BestNewest, a round's end: the sector is put down, and what else stands there. -/
import Derived.Test.YtkidbgfegnmhdaaK12
set_option linter.unusedVariables false
set_option linter.unusedSimpArgs false
namespace Go.Proofs.Ytkidbgfegnmhdaa.T
open Go Go.RowKit Go.Proofs

theorem decR_short {j : List Int} (h : j.length ≠ 128) : (decR j).2 ≠ 0 := by unfold decR; rw [if_pos h]; decide
noncomputable def newest (bss : List (List Int)) : Lb × Int := bestR bss 0 (lbm, -1)
theorem newest_add (bss : List (List Int)) (b : List Int) : newest (bss ++ [b]) = bs1 (newest bss) bss.length b := by
  unfold newest; rw [bestR_app]; simp only [bestR]; congr 1; omega
theorem newest_junk (bss : List (List Int)) {b : List Int} (h : (decR b).2 ≠ 0) : newest (bss ++ [b]) = newest bss := by
  rw [newest_add]; unfold bs1; rw [if_neg (fun q => h q.1)]

/-- What stands beside: slices of bytes. -/
def Junk (h : AHeap) (nx : Nat) (c2 : List (List AV)) : Prop := ∀ v ∈ c2, Ty h nx (.sl (.int .u8)) v

theorem own_mono {h h' : AHeap} {nx nx' : Nat} {a o : Option (Nat × Nat)} {bss : List (List Int)} {H : AHeap} {N : Nat} (w : OwnRows (Cel h nx (ownOf o)) H N a 1 bss) (f : Frm (ownOf o) h nx H N) (g : ∀ i, i < nx → ownOf a i → ownOf o i) (x : Ext H N h' nx') : OwnRows (Cel h' nx' (ownOf a)) h' nx' a 1 bss :=
  w.go (D := fun _ => False) (x.fr _) (fun _ _ q => q) (fun b r q => (q.go f (fun _ _ q => q) g).go (D := fun _ => False) (x.fr _) (fun _ _ q => q.elim) (fun _ _ q => q))

theorem j5_spec {P : Option Res → Prop} {f lf g n0 k : Nat} (hk : k < 12) {h0 : AHeap} {x0a x1a x2a x7a : Option (Nat × Nat)} {x0n x1n : Nat} {x0c x1c x7c c12 : Option Nat} {c2 : List (List AV)} {x8 x9 : Int} {bss : List (List Int)} (bl : bss.length ≤ 24)
    (s2 : Sl h0 n0 x2a c2.length 1 c2.flatten) (t2 : Junk h0 n0 c2) {h : AHeap} {nx : Nat} (w : OwnRows (Cel h nx (ownOf x7a)) h nx x7a 1 bss) (own : ∀ i, ownOf x7a i → n0 ≤ i) (x : Ext h0 n0 h nx)
    {cs : List Int} (hB : Bytes cs) (hcs : cs.length = 128) {cb : Nat} (hcb : h cb = some ⟨ints .u8 cs, 1, true⟩) (lcb : cb < nx) (ncb : ¬ ownOf x7a cb)
    (next : ∀ (bss' : List (List Int)) (a' : Option (Nat × Nat)) (c' : Option Nat) (h' : AHeap) (nx' : Nat), newest bss' = bs1 (newest bss) bss.length cs → bss'.length ≤ bss.length + 2 → OwnRows (Cel h' nx' (ownOf a')) h' nx' a' 1 bss' → (∀ i, ownOf a' i → n0 ≤ i) → Ext h0 n0 h' nx' →
      P (F6_L1 (callP Try.prog keepT f) Y0 lf g x0a x0n x0c x1a x1n x1c x2a c2.length none a' bss'.length c' x8 x9 ((k + 1 : Nat) : Int) h' nx')) :
    P (F6_J5 (callP Try.prog keepT f) Y0 lf g x0a x0n x0c x1a x1n x1c x2a c2.length none x7a bss.length x7c x8 x9 (k : Int) (some (cb, 0)) 128 c12 h nx) := by
  rw [F6_J5_eq]
  dsimp only
  have cel : Cel h nx (ownOf x7a) cs [.slice (some (cb, 0)) 128 c12] := ⟨_, rfl, hB, some (cb, 0), c12, by rw [hcs], ⟨by simp [ints], fun j hj => ⟨(cb, 0), _, rfl, lcb, hcb, rfl, by simp [ints], fun q hq => by simp⟩⟩, fun _ p e => by obtain rfl := Option.some.inj e; exact ncb⟩
  obtain ⟨e3, q1, q2, q3, q4, q5, q6, _, _⟩ := w.push x7c (bytes := 24) (id := nx + 2) (id2 := nx + 3) rfl cel (growOk_of (by omega) (by omega)) (by omega) (by omega)
  rw [q1]
  simp only [mst_]
  rw [q2]
  simp only [mst_]
  have x4 : Ext h0 n0 ((h.put (nx + 2) (some ⟨[.slice (some (cb, 0)) 128 c12], 1, true⟩)).puts e3.sets) (nx + 4) := ⟨by have := x.1; omega, fun i hi => by rw [q6.2 i (by have := x.1; omega) (fun q => by have := own i q; omega)]; exact x.2 i hi⟩
  have own4 : ∀ i, ownOf e3.a i → i = nx + 3 := fun i ⟨o, e⟩ => by rw [q3] at e; cases e; rfl
  rw [show nx + 3 + 1 = nx + 4 by omega] at q5 q6
  generalize (h.put (nx + 2) (some ⟨[.slice (some (cb, 0)) 128 c12], 1, true⟩)).puts e3.sets = h4 at *
  have hw : wrapA .i64 ((k : Int) + 1) = ((k + 1 : Nat) : Int) := wsucc (i := k) (by omega)
  rw [hw]
  rw [show e3.n = (bss ++ [cs]).length by rw [q4]; simp]
  have plain : P (F6_L1 (callP Try.prog keepT f) Y0 lf g x0a x0n x0c x1a x1n x1c x2a c2.length none e3.a (bss ++ [cs]).length e3.c x8 x9 ((k + 1 : Nat) : Int) h4 (nx + 20)) := by
    refine next (bss ++ [cs]) e3.a e3.c h4 (nx + 20) (newest_add _ _) (by simp) ?_ (fun i hi => ?_) (x4.le (by omega))
    · exact own_mono q5 q6 (fun i hi q => by have := own4 i q; omega) ⟨by omega, fun _ _ => rfl⟩
    · have := own4 i hi; have := x.1; omega
  by_cases c : k < c2.length
  · rw [if_pos (decide_eq_true (by omega))]
    obtain ⟨ja, jl, hj, wj, sj, bj⟩ := (t2 c2[k] (List.getElem_mem c)).intsB
    have hfl : c2.flatten[k * 1]? = some (.slice ja jl.length none) := by
      have := flat_get (rows := c2) (es := 1) (i := k) (f := 0) (r := c2[k]) (fun r hr => (t2 r hr).length) (by simp [c]) (by omega)
      rw [hj] at this
      simpa using this
    have s2' : Sl h4 (nx + 4) x2a c2.length 1 c2.flatten := s2.ext x4
    rw [s2'.read0 (i := (k : Int)) (by omega) (by omega) (by omega) (by rw [Int.toNat_natCast]; exact hfl)]
    simp only [mst_]
    by_cases cl : jl.length = 128
    · rw [if_neg (by rw [cl]; decide)]
      exact plain
    · rw [if_pos (by rw [bne_iff_ne]; omega), s2'.read0 (i := (k : Int)) (by omega) (by omega) (by omega) (by rw [Int.toNat_natCast]; exact hfl)]
      simp only [mst_]
      have sj4 : Sl h4 (nx + 4) ja jl.length 1 (ints .u8 jl) := Sl.ext (vs := ints .u8 jl) sj x4
      obtain ⟨rd, src⟩ := sj4.src'
      rw [src]
      simp only [mst_]
      obtain ⟨e12, p1, p2, p3, p4⟩ := copyOf (h := h4) (nx := nx + 22) (n := jl.length) (es := 1) (bytes := 1) (id := nx + 22) (vs := ints .u8 jl) (rd := rd) (by simp [ints]) (by unfold growOk; simp only [Bool.and_eq_true, decide_eq_true_eq]; omega) (by omega)
      rw [p1]
      simp only [mst_]
      rw [p2]
      have w13 : OwnRows (Cel (h4.puts e12.sets) (nx + 23) (ownOf e3.a)) (h4.puts e12.sets) (nx + 23) e3.a 1 (bss ++ [cs]) := own_mono q5 q6 (fun i hi q => by have := own4 i q; omega) ⟨by omega, fun i hi => p4.2 i (by omega)⟩
      have x13 : Ext h0 n0 (h4.puts e12.sets) (nx + 23) := ⟨by have := x.1; omega, fun i hi => by rw [p4.2 i (by have := x.1; omega)]; exact x4.2 i hi⟩
      generalize h4.puts e12.sets = h13 at *
      have celj : Cel h13 (nx + 23) (ownOf e3.a) jl [.slice e12.a jl.length e12.c] := ⟨_, rfl, wf8 wj, e12.a, e12.c, rfl, p3.sl, p3.av (fun i h1 h2 q => by have := own4 i q; omega)⟩
      obtain ⟨e16, r1, r2, r3, r4, r5, r6, _, _⟩ := w13.push e3.c (bytes := 24) (id := nx + 23) (id2 := nx + 24) rfl celj (growOk_of (by simp; omega) (by omega)) (by omega) (by omega)
      rw [r1]
      simp only [mst_]
      rw [r2]
      simp only [mst_]
      have own16 : ∀ i, ownOf e16.a i → i = nx + 24 := fun i ⟨o, e⟩ => by rw [r3] at e; cases e; rfl
      rw [show e16.n = (bss ++ [cs] ++ [jl]).length by rw [r4]; simp]
      refine next (bss ++ [cs] ++ [jl]) e16.a e16.c _ (nx + 29) (by rw [newest_junk _ (decR_short cl)]; exact newest_add _ _) (by simp) ?_ (fun i hi => ?_) ⟨by have := x.1; omega, fun i hi => ?_⟩
      · exact own_mono r5 r6 (fun i hi q => by have := own16 i q; omega) ⟨by omega, fun _ _ => rfl⟩
      · have := own16 i hi; have := x.1; omega
      · rw [r6.2 i (by have := x.1; omega) (fun q => by have := own4 i q; have := x.1; omega)]
        exact x13.2 i hi
  · rw [if_neg (by rw [decide_eq_true_eq]; omega)]
    exact plain

end Go.Proofs.Ytkidbgfegnmhdaa.T
