/- Snaps: what a keeper is in memory; no; where a snapshot stands. -/
import Derived.Test.YtaikceooeahfeaaS2
set_option linter.unusedVariables false
set_option linter.unusedSimpArgs false
namespace Go.Proofs.Ytaikceooeahfeaa.T
open Go Go.RowKit Go.Proofs

/-- A snapshot, and where its list of the dead lies. -/
structure SR where
  num : Int
  made : Int
  dead : List Int
  a : Option (Nat × Nat)
  c : Option Nat
def SR.row (s : SR) : List AV := [.int .i64 s.num, .int .i64 s.made, .slice s.a s.dead.length s.c]
structure KR where
  now : Int
  kept : Int
  blocks : List (Int × Bool)
  shots : List SR
  ba : Option (Nat × Nat)
  bc : Option Nat
  sa : Option (Nat × Nat)
  sc : Option Nat
def brow (x : Int × Bool) : List AV := [.int .i64 x.1, .bool x.2]
def one1 (x : Int) : List AV := [.int .i64 x]
theorem one1_flat (l : List Int) : (l.map one1).flatten = ints .i64 l := by
  induction l with
  | nil => rfl
  | cons x l ih => simp only [List.map_cons, List.flatten_cons, ih]; rfl

def KR.cells (K : KR) : List AV := [.int .i64 K.now, .slice K.ba K.blocks.length K.bc, .slice K.sa K.shots.length K.sc, .int .i64 K.kept]
def Kown (kb : Nat) (K : KR) (i : Nat) : Prop := i = kb ∨ ownOf K.ba i ∨ ownOf K.sa i ∨ ∃ s ∈ K.shots, ownOf s.a i
def apartS (s t : SR) : Prop := ∀ b, ownOf s.a b → ¬ ownOf t.a b
structure KOk (h : AHeap) (nx kb : Nat) (K : KR) : Prop where
  lt : kb < nx
  blk : h kb = some ⟨K.cells, 4, true⟩
  bs : Spr h nx K.ba K.bc 2 (K.blocks.map brow)
  ss : Spr h nx K.sa K.sc 3 (K.shots.map SR.row)
  ds : ∀ s ∈ K.shots, Spr h nx s.a s.c 1 (s.dead.map one1)
  a1 : ¬ ownOf K.ba kb
  a2 : ¬ ownOf K.sa kb
  a3 : ∀ b, ownOf K.ba b → ¬ ownOf K.sa b
  a4 : ∀ s ∈ K.shots, ∀ b, ownOf s.a b → b ≠ kb ∧ ¬ ownOf K.ba b ∧ ¬ ownOf K.sa b
  a5 : K.shots.Pairwise apartS

variable {h h' : AHeap} {nx nx' kb : Nat} {K : KR}
theorem KOk.go {D : Nat → Prop} (w : KOk h nx kb K) (f : Frm D h nx h' nx') (d : ∀ i, Kown kb K i → ¬ D i) : KOk h' nx' kb K where
  lt := by have := f.1; have := w.lt; omega
  blk := (f.2 kb w.lt (d kb (.inl rfl))).trans w.blk
  bs := w.bs.go f fun i hi => d i (.inr (.inl hi))
  ss := w.ss.go f fun i hi => d i (.inr (.inr (.inl hi)))
  ds s hs := (w.ds s hs).go f fun i hi => d i (.inr (.inr (.inr ⟨s, hs, hi⟩)))
  a1 := w.a1
  a2 := w.a2
  a3 := w.a3
  a4 := w.a4
  a5 := w.a5
theorem KOk.own_lt (w : KOk h nx kb K) : ∀ i, Kown kb K i → i < nx := by
  rintro i (rfl | hi | hi | ⟨s, hs, hi⟩)
  · exact w.lt
  · exact w.bs.lt i hi
  · exact w.ss.lt i hi
  · exact (w.ds s hs).lt i hi

/-- What stands for an answer: its code, and the numbers in a list that nobody turns. -/
def Gon (h : AHeap) (nx : Nat) (A : Nat → Prop) (r : List AV) (g : Int × List Int) : Prop := ∃ v, r = [.int .i64 g.1, v] ∧ Byt .i64 h nx A v g.2
theorem Gon.go {A A' D : Nat → Prop} {r : List AV} {g : Int × List Int} (b : Gon h nx A r g) (f : Frm D h nx h' nx') (d : ∀ i, i < nx → D i → A i) (k : ∀ i, i < nx → A' i → A i) : Gon h' nx' A' r g := by
  obtain ⟨v, e, w⟩ := b
  exact ⟨v, e, w.go f d k⟩

theorem no_spec {f : Nat} (hf : 1 ≤ f) (Y : YldF) (e : Int) (h : AHeap) (nx : Nat) : ∃ h', callP Try.prog keepT f Y 11 [.int .i64 e] h nx = some (.agg [.int .i64 e, .slice none 0 none], h', nx + 4) ∧ Ext h nx h' (nx + 4) := by
  obtain ⟨f, rfl⟩ : ∃ m, f = m + 1 := ⟨f - 1, by omega⟩
  rw [F11_eq]
  dsimp only
  rw [st_all (put_same _ _ _) (n := 2) rfl rfl (by rfl), ldr_all (put_same _ _ _) (n := 2) rfl]
  simp only [mst_]
  exact ⟨_, rfl, ⟨by omega, fun i hi => by rw [put_ne (by omega), put_ne (by omega)]⟩⟩

def idxI : List SR → Int → Nat → Int
  | [], _, _ => -1
  | s :: l, x, k => if s.num = x then (k : Int) else idxI l x (k + 1)

theorem idx_loop {f : Nat} (hf : 1 ≤ f) {Y : YldF} {lf : Nat} {a : Option (Nat × Nat)} {c : Option Nat} {l : List SR} (hN : l.length ≤ 1000) {cb : Nat} {x : Int} {h0 : AHeap} {nx0 : Nat} (hcb : cb < nx0) (ec : h0 cb = some ⟨[.int .i64 x], 1, true⟩) (s : Sl h0 nx0 a l.length 3 (l.map SR.row).flatten) (d : Nat) :
    ∀ (n0 k : Nat) (h : AHeap) (nx : Nat), k + d = l.length → d < n0 → Ext h0 nx0 h nx →
      ∃ h' nx', F14_L1 (callP Try.prog keepT f) Y lf n0 a l.length c (.fn 15 [] [.ptr (some (cb, 0))]) ((l.length : Nat) : Int) (k : Int) h nx = some (.int .i64 (idxI (l.drop k) x k), h', nx') ∧ Ext h0 nx0 h' nx' := by
  induction d with
  | zero =>
    intro n0 k h nx e hl x0
    obtain ⟨n0, rfl⟩ : ∃ m, n0 = m + 1 := ⟨n0 - 1, by omega⟩
    rw [F14_L1_eq, if_neg (by rw [decide_eq_true_eq]; omega), List.drop_of_length_le (by omega)]
    exact ⟨_, _, rfl, x0.le (by omega)⟩
  | succ d ih =>
    intro n0 k h nx e hl x0
    obtain ⟨n0, rfl⟩ : ∃ m, n0 = m + 1 := ⟨n0 - 1, by omega⟩
    have hk : k < l.length := by omega
    rw [F14_L1_eq, if_pos (decide_eq_true (by omega))]
    have s' : Sl h nx a l.length 3 (l.map SR.row).flatten := s.ext x0
    have hrow : (((l.map SR.row).flatten).drop (k * 3)).take 3 = l[k].row := flat_drop (fun r hr => by obtain ⟨u, _, rfl⟩ := List.mem_map.1 hr; rfl) (by simp [hk])
    rw [s'.readR hk, hrow]
    unfold SR.row
    rw [List.drop_eq_getElem_cons hk, idxI]
    generalize l[k] = S
    simp only [mst_]
    obtain ⟨f, rfl⟩ : ∃ m, f = m + 1 := ⟨f - 1, by omega⟩
    rw [asCal_fn]
    simp only [mst_]
    rw [callC_fn, nil_app, List.singleton_append, F15_eq]
    dsimp only
    rw [ld_at (put_same _ _ _) (v := .int .i64 S.num) rfl]
    simp only [mst_]
    rw [ld_at (show (h.put (nx + 9) (some ⟨[.int .i64 S.num, .int .i64 S.made, .slice S.a S.dead.length S.c], 3, true⟩)) cb = some ⟨[.int .i64 x], 1, true⟩ by rw [put_ne (by have := x0.1; omega), x0.2 cb hcb]; exact ec) (v := .int .i64 x) rfl]
    simp only [mst_]
    have x1 : Ext h0 nx0 (h.put (nx + 9) (some ⟨[.int .i64 S.num, .int .i64 S.made, .slice S.a S.dead.length S.c], 3, true⟩)) (nx + 9 + 7 + 2) := ⟨by have := x0.1; omega, fun i hi => by rw [put_ne (by have := x0.1; omega)]; exact x0.2 i hi⟩
    by_cases c0 : S.num = x
    · rw [if_pos (by simpa using c0), if_pos c0]
      exact ⟨_, _, rfl, x1⟩
    · rw [if_neg (by simpa using c0), if_neg c0, wsucc (i := k) (by omega)]
      exact ih n0 (k + 1) _ _ (by omega) (by omega) x1

theorem idx_spec {f : Nat} (hf : 1010 ≤ f) (Y : YldF) {a : Option (Nat × Nat)} (c : Option Nat) {l : List SR} (hN : l.length ≤ 1000) {cb : Nat} {x : Int} {h : AHeap} {nx : Nat} (hcb : cb < nx) (ec : h cb = some ⟨[.int .i64 x], 1, true⟩) (s : Sl h nx a l.length 3 (l.map SR.row).flatten) :
    ∃ h' nx', callP Try.prog keepT f Y 14 [.slice a l.length c, .fn 15 [] [.ptr (some (cb, 0))]] h nx = some (.int .i64 (idxI l x 0), h', nx') ∧ Ext h nx h' nx' := by
  obtain ⟨f, rfl⟩ : ∃ m, f = m + 1 := ⟨f - 1, by omega⟩
  rw [F14_eq]
  exact idx_loop (f := f) (by omega) hN hcb ec s l.length f 0 h (nx + 4) (by omega) (by omega) ⟨by omega, fun _ _ => rfl⟩

end Go.Proofs.Ytaikceooeahfeaa.T
