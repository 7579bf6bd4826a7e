/- The abstract machine's copy, make, literals, fields, conversions. Nothing of a program. -/
import Derived.Test.YtahilinkfnchaaaDoorT5
set_option linter.unusedVariables false
set_option linter.unusedSimpArgs false
namespace Go.Proofs.YtahilinkfnchaaaDoor.T
open Go Go.RowKit

variable {R : Type} {P : Program} {T : Types} {N : Nat} {m : PMap} {h : AHeap} {fr : Nat → Prop} {w : World}

theorem rel_slice_form {a : Option (Nat × Nat)} {n : Nat} {c : Option Nat} {X : Value} (hx : Rel m (.slice a n c) X) : ∃ A cc, X = .slice A n cc ∧ n ≤ cc := by
  cases a with
  | none => simp only [Rel] at hx; obtain ⟨rfl, rfl⟩ := hx; exact ⟨_, _, rfl, Nat.le_refl _⟩
  | some a => simp only [Rel] at hx; obtain ⟨p, A, cc, _, rfl, q, _⟩ := hx; exact ⟨_, _, rfl, q⟩

/-! ### copy, of slices -/
def copD (h : AHeap) (a : Option (Nat × Nat)) (n : Nat) (c : Option (Nat × Nat)) (k es : Nat) : Option (Nat × List (Nat × Option ABlk) × List Nat) :=
  if min k n = 0 then some (0, [], []) else
  a.bind fun a => c.bind fun c => (h a.1).bind fun b => (h c.1).bind fun s =>
    if (b.own && b.es == es && decide (a.2 + min k n * es ≤ b.cells.length) && s.es == es && decide (c.2 + min k n * es ≤ s.cells.length)) = true then
      some (min k n, [(a.1, some ⟨splice b.cells a.2 ((s.cells.drop c.2).take (min k n * es)), b.es, true⟩)], [a.1, c.1]) else none

def copyA (T : Types) (t : Nat) (d x : AV) (h : AHeap) (K : Eff → Option R) : Option R :=
  match d, x, T t with
  | .slice a n _, .slice c k _, some ti =>
    (match ti.desc with
     | .slice e => (match T e with
       | some te => (copD h a n c k te.size).bind fun q => K ⟨.int .i64 (q.1 : Nat), q.2.1, q.2.2⟩
       | none => none)
     | _ => none)
  | _, _, _ => none

theorem copyA_sim (ht : TOk P T) (s : Sim N m h fr w) (id : Nat) {t tx ty : Nat} {d x : AV} {X Y : Value} {K : Eff → Option R} {r : R} (hx : Rel m d X) (hy : Rel m x Y)
    (hh : copyA T t d x h K = some r) : ∃ e, K e = some r ∧ Does P N m h fr w id e (Builtin.copy_ #[t, tx] ty #[X, Y]) := by
  unfold copyA at hh
  split at hh
  · rename_i a n cl c k cl2 ti et
    split at hh
    · rename_i e ed
      split at hh
      · rename_i te ee
        obtain ⟨hu, hsz, _⟩ := ht.slice (w := w) et ed ee
        unfold copD at hh
        by_cases c0 : min k n = 0
        · rw [if_pos c0] at hh
          simp only [Option.bind_some] at hh
          obtain ⟨A, ca, rfl, _⟩ := rel_slice_form hx
          obtain ⟨C, cc, rfl, _⟩ := rel_slice_form hy
          refine ⟨_, hh, Does.pure s (x := .int .i64 ((0:Nat):Int)) ?_ (by simp only [Rel])⟩
          have c0' : Nat.min k n = 0 := c0
          cases A <;> cases C <;> simp [Builtin.copy_, run_underlying hu, Builtin.lenOf, c0', Builtin.firstCells, hsz, loadCells, loadCellsFrom, storeCells, goInt]
        · rw [if_neg c0] at hh
          cases a with
          | none => cases hh
          | some a =>
            cases c with
            | none => cases hh
            | some c =>
              simp only [Option.bind_some] at hh
              cases hb : h a.1 with
              | none => rw [hb] at hh; cases hh
              | some b =>
                rw [hb] at hh; simp only [Option.bind_some] at hh
                cases hs : h c.1 with
                | none => rw [hs] at hh; cases hh
                | some sb =>
                  rw [hs] at hh; simp only [Option.bind_some] at hh
                  by_cases c1 : (b.own && b.es == te.size && decide (a.2 + min k n * te.size ≤ b.cells.length) && sb.es == te.size && decide (c.2 + min k n * te.size ≤ sb.cells.length)) = true
                  · rw [if_pos c1] at hh
                    simp only [Option.bind_some] at hh
                    simp only [Bool.and_eq_true, beq_iff_eq, decide_eq_true_eq] at c1
                    obtain ⟨⟨⟨⟨own, e1⟩, q1⟩, e2⟩, q2⟩ := c1
                    have hsm := ht.small _ _ (by assumption : T _ = some te)
                    have hbne : b.es ≠ MB := by rw [e1]; omega
                    have hsne : sb.es ≠ MB := by rw [e2]; omega
                    simp only [Rel] at hx hy
                    obtain ⟨p, A, ca, hp, rfl, hn, _, hA⟩ := hx
                    obtain ⟨q, C, cc, hq, rfl, hk, _, hC⟩ := hy
                    obtain ⟨rfl, _⟩ := hA (by omega)
                    obtain ⟨rfl, _⟩ := hC (by omega)
                    obtain ⟨xs, rx, qx, hlx⟩ := s.range hs hq hsne c.2 (min k n * te.size) q2
                    obtain ⟨p', hp', ok⟩ := s.blk a.1 b hb
                    rw [hp] at hp'; obtain rfl := Option.some.inj hp'
                    obtain ⟨q', hq', okq⟩ := s.blk c.1 sb hs
                    have one : allOne ((sb.cells.drop c.2).take (min k n * te.size)) = true := allOne_of fun v hv => allOne_mem (okq.one hsne) (List.mem_of_mem_drop (List.mem_of_mem_take hv))
                    have hcl : ((sb.cells.drop c.2).take (min k n * te.size)).length = min k n * te.size := by rw [← rx.length, hlx]
                    have hload := run_loadCells_list (P := P) w ⟨q.blk, q.base + c.2, none⟩ xs (rangeAt_cells qx)
                    have hst := run_storeCells_cells (P := P) p.blk (p.base + a.2) xs 0 w (fun j hj => by
                        have := ((ok.own own).2 hbne (a.2 + j) (by have := ok.fits hbne; omega)).1
                        rwa [show p.base + (a.2 + j) = p.base + a.2 + 0 + j by omega] at this)
                      (fun j hj => by
                        have := ((ok.own own).2 hbne (a.2 + j) (by have := ok.fits hbne; omega)).2
                        rwa [show p.base + (a.2 + j) = p.base + a.2 + 0 + j by omega] at this) (RelL.one rx one)
                    simp only [Nat.add_zero] at hst
                    rw [hlx] at hload
                    have hmin : Nat.min k n = min k n := rfl
                    refine ⟨_, hh, .int .i64 (min k n : Nat), w.setCells p.blk (p.base + a.2) xs, m, ?_, by simp only [Rel], (s.store hb hp own a.2 _ xs rx one (by rw [hcl]; exact q1) hbne).mono (fun _ hj => hj.1), PMap.le_refl m, below_setCells (ok.own own).1 _ _ _ (Below.refl N w)⟩
                    simp [Builtin.copy_, run_underlying hu, Builtin.lenOf, hmin, Builtin.firstCells, hsz, hload, hst, goInt]
                  · rw [if_neg c1] at hh; cases hh
      · cases hh
    · cases hh
  · cases hh

/-! ### make -/
def madeA (z : List AV) (n : Nat) : List AV :=
  match z with
  | [v] => List.replicate n v
  | z => (List.range n).map fun i => z.getD (i % z.length) .bad

theorem madeA_get {z : List AV} {n i : Nat} (hi : i < n) : (madeA z n)[i]? = some (z.getD (i % z.length) .bad) := by
  unfold madeA
  split
  · simp [hi, Nat.mod_one]
  · simp [hi]
theorem madeA_length (z : List AV) (n : Nat) : (madeA z n).length = n := by unfold madeA; split <;> simp
theorem madeA_one {z : List AV} (hz : allOne z = true) (h0 : z ≠ []) (n : Nat) : allOne (madeA z n) = true := allOne_of fun v hv => by
  obtain ⟨i, hi, e⟩ := List.getElem_of_mem hv
  rw [madeA_length] at hi
  have := madeA_get (z := z) hi
  rw [List.getElem?_eq_getElem (by rw [madeA_length]; exact hi), e] at this
  have hl : i % z.length < z.length := Nat.mod_lt _ (List.length_pos_iff.2 h0)
  rw [List.getD_eq_getElem?_getD, List.getElem?_eq_getElem hl] at this
  simp only [Option.getD_some, Option.some.injEq] at this
  rw [this]
  exact allOne_mem hz (List.getElem_mem _)

theorem madeA_rel {z : List AV} {Z : Array Value} (hz : RelL m z Z.toList) (h0 : z ≠ []) {n k : Nat} (hk : k ≤ n) : RelL m (madeA z k) ((madeCells Z n).toList.take k) := by
  have hl := hz.length
  refine RelL.of_get (by rw [madeA_length, List.length_take, Array.length_toList, size_madeCells]; omega) fun i v hv => ?_
  have hi : i < k := by have := (List.getElem?_eq_some_iff.1 hv).1; rwa [madeA_length] at this
  rw [madeA_get hi] at hv
  have hlt : i % z.length < z.length := Nat.mod_lt _ (List.length_pos_iff.2 h0)
  obtain ⟨x, hx, hr⟩ := hz.get (i % z.length) (z.getD (i % z.length) .bad) (by rw [List.getD_eq_getElem?_getD, List.getElem?_eq_getElem hlt]; rfl)
  obtain rfl := Option.some.inj hv
  refine ⟨x, ?_, hr⟩
  rw [List.getElem?_take, if_pos hi]
  simp only [madeCells, Array.getElem?_toList]
  rw [Array.getElem?_map, Array.getElem?_range]
  simp only [Array.length_toList] at hl
  rw [if_pos (by omega)]
  simp only [Option.map_some, Option.some.injEq]
  rw [← hl] at hx
  rw [Array.getElem?_toList] at hx
  rw [getElem!_def, hx]

def makeA (T : Types) (t : Nat) (l c : AV) (id : Nat) (K : Eff → Option R) : Option R :=
  match l, c, T t with
  | .int _ l, .int _ c, some ti =>
    (match ti.desc with
     | .slice e => (match T e with
       | some te => if (decide (0 ≤ l) && decide (l ≤ c) && decide ((te.bytes : Int) * c ≤ 281474976710656) && decide (c ≤ 9223372036854775807) && te.size != 0) = true then
           K ⟨.slice (some (id, 0)) l.toNat (some c.toNat), [(id, some ⟨madeA te.zero.cells (c.toNat * te.size), te.size, true⟩)], []⟩ else none
       | none => none)
     | _ => none)
  | _, _, _ => none

theorem makeA_sim (ht : TOk P T) (s : Sim N m h fr w) {id : Nat} (hid : fr id) {t : Nat} {l c : AV} {X Y : Value} {K : Eff → Option R} {r : R} (hx : Rel m l X) (hy : Rel m c Y)
    (hh : makeA T t l c id K = some r) : ∃ e, K e = some r ∧ Does P N m h fr w id e (Instr.makeSlice t X Y) := by
  unfold makeA at hh
  split at hh
  · rename_i kl l kc c ti et
    simp only [Rel] at hx hy; subst hx; subst hy
    split at hh
    · rename_i e ed
      split at hh
      · rename_i te ee
        obtain ⟨hu, hsz, info, z, hi, hs, hb, hz, hr, hl, ho⟩ := ht.slice (w := w) et ed ee
        split at hh
        · rename_i cc
          simp only [Bool.and_eq_true, decide_eq_true_eq, bne_iff_ne] at cc
          obtain ⟨⟨⟨⟨h0, hlc⟩, hby⟩, h63⟩, hne⟩ := cc
          have hzc := Rel.cells (hr m) ho
          have hz0 : te.zero.cells ≠ [] := by intro e; rw [e] at hl; exact hne hl.symm
          have hrun := run_make (P := P) w t e info z hu hi hz kl kc l c h0 hlc (by rw [hb]; exact hby) h63
          rw [hs] at hrun
          have hle : c.toNat * te.size ≤ c.toNat * te.size := Nat.le_refl _
          obtain ⟨s2, le⟩ := s.alloc hid (madeA te.zero.cells (c.toNat * te.size)) ((madeCells z.cells (c.toNat * te.size)).toList.take (c.toNat * te.size)) ((madeCells z.cells (c.toNat * te.size)).toList.drop (c.toNat * te.size))
            (madeA_rel hzc hz0 hle) (madeA_one ho hz0 _) e te.size (c.toNat * te.size) (by rw [madeA_length]; exact hle) (by rw [List.take_append_drop, Array.length_toList, size_madeCells]; exact Nat.le_refl _) (ht.small _ _ (by assumption))
          rw [List.take_append_drop] at s2
          simp only [Array.toArray_toList] at s2
          refine ⟨_, hh, _, _, _, hrun, ?_, s2, le, (Below.refl N w).alloc s.base _⟩
          simp only [Rel]
          exact ⟨⟨w.heap.size, 0, c.toNat * te.size, te.size⟩, _, _, by simp [PMap.put], rfl, by omega, fun k hk => by obtain rfl := Option.some.inj hk; exact CapIs.self _, fun _ => ⟨rfl, by simp⟩⟩
        · cases hh
      · cases hh
    · cases hh
  · cases hh

/-! ### clear, of slices -/
def cleD (h : AHeap) (a : Option (Nat × Nat)) (n es : Nat) (z : List AV) : Option (List (Nat × Option ABlk) × List Nat) :=
  if n = 0 then some ([], []) else
  a.bind fun a => (h a.1).bind fun b =>
    if (b.own && decide (a.2 + n * es ≤ b.cells.length) && !mapB b) = true then
      some ([(a.1, some ⟨splice b.cells a.2 (madeA z (n * es)), b.es, true⟩)], [a.1]) else none

def clearA (T : Types) (t : Nat) (x : AV) (h : AHeap) (K : Eff → Option R) : Option R :=
  match x, T t with
  | .slice a n _, some ti =>
    (match ti.desc with
     | .slice e => (match T e with
       | some te => if te.size = 0 then none else (cleD h a n te.size te.zero.cells).bind fun q => K ⟨.tuple [], q.1, q.2⟩
       | none => none)
     | _ => none)
  | _, _ => none

theorem clearA_sim (ht : TOk P T) (s : Sim N m h fr w) (id : Nat) {t ty : Nat} {x : AV} {X : Value} {K : Eff → Option R} {r : R} (hx : Rel m x X)
    (hh : clearA T t x h K = some r) : ∃ e, K e = some r ∧ Does P N m h fr w id e (Builtin.clear_ #[t] ty #[X]) := by
  unfold clearA at hh
  split at hh
  · rename_i a n cl ti et
    split at hh
    · rename_i e ed
      split at hh
      · rename_i te ee
        split at hh
        · cases hh
        rename_i hne
        obtain ⟨hu, hsz, info, z, hi, hs, hb, hz, hr, hl, ho⟩ := ht.slice (w := w) et ed ee
        have hun : Rel m (.tuple []) (.tuple #[]) := by simp only [Rel]; exact ⟨[], rfl, by simp [RelL]⟩
        unfold cleD at hh
        by_cases c0 : n = 0
        · rw [if_pos c0] at hh
          simp only [Option.bind_some] at hh
          subst c0
          obtain ⟨A, ca, rfl, _⟩ := rel_slice_form hx
          refine ⟨_, hh, Does.pure s (x := .tuple #[]) ?_ hun⟩
          cases A <;> simp [Builtin.clear_, run_underlying hu]
        · rw [if_neg c0] at hh
          cases a with
          | none => cases hh
          | some a =>
            simp only [Option.bind_some] at hh
            cases hbk : h a.1 with
            | none => rw [hbk] at hh; cases hh
            | some b =>
              rw [hbk] at hh; simp only [Option.bind_some] at hh
              by_cases c1 : (b.own && decide (a.2 + n * te.size ≤ b.cells.length) && !mapB b) = true
              · rw [if_pos c1] at hh
                simp only [Option.bind_some] at hh
                simp only [Bool.and_eq_true, decide_eq_true_eq] at c1
                obtain ⟨⟨own, q1⟩, hmb⟩ := c1
                have hbne : b.es ≠ MB := mapB_ne (by simpa using hmb)
                simp only [Rel] at hx
                obtain ⟨p, A, ca, hp, rfl, hn, _, hA⟩ := hx
                obtain ⟨rfl, _⟩ := hA (by omega)
                obtain ⟨p', hp', ok⟩ := s.blk a.1 b hbk
                rw [hp] at hp'; obtain rfl := Option.some.inj hp'
                have hzc := Rel.cells (hr m) ho
                have hz0 : te.zero.cells ≠ [] := by intro e; rw [e] at hl; exact hne hl.symm
                have hzs : z.cells.size = te.size := by have := hzc.length; rw [hl] at this; simpa using this
                have rx := madeA_rel hzc hz0 (Nat.le_refl (n * te.size))
                have one := madeA_one ho hz0 (n * te.size)
                have hxs : (madeCells z.cells (n * te.size)).toList.take (n * te.size) = (Builtin.zeroCells z.cells n).toList := by
                  rw [List.take_of_length_le (by rw [Array.length_toList, size_madeCells]; exact Nat.le_refl _)]
                  simp only [madeCells, Builtin.zeroCells, hzs]
                rw [hxs] at rx
                have hlx : (Builtin.zeroCells z.cells n).toList.length = n * te.size := by rw [Array.length_toList, size_zeroCells, hzs]
                have hst := run_storeCells_cells (P := P) p.blk (p.base + a.2) (Builtin.zeroCells z.cells n).toList 0 w (fun j hj => by
                    have := ((ok.own own).2 hbne (a.2 + j) (by have := ok.fits hbne; omega)).1
                    rwa [show p.base + (a.2 + j) = p.base + a.2 + 0 + j by omega] at this)
                  (fun j hj => by
                    have := ((ok.own own).2 hbne (a.2 + j) (by have := ok.fits hbne; omega)).2
                    rwa [show p.base + (a.2 + j) = p.base + a.2 + 0 + j by omega] at this) (RelL.one rx one)
                simp only [Nat.add_zero] at hst
                have zrun : (zeroValue e).run P w = .ok z w := by simp [zeroValue, typeInfo, hi, hz]
                refine ⟨_, hh, .tuple #[], w.setCells p.blk (p.base + a.2) (Builtin.zeroCells z.cells n).toList, m, ?_, hun, (s.store hbk hp own a.2 _ _ rx one (by rw [madeA_length]; exact q1) hbne).mono (fun _ hj => hj.1), PMap.le_refl m, below_setCells (ok.own own).1 _ _ _ (Below.refl N w)⟩
                cases n with
                | zero => exact absurd rfl c0
                | succ n => simp [Builtin.clear_, run_underlying hu, zrun, hst]
              · rw [if_neg c1] at hh; cases hh
      · cases hh
    · cases hh
  · cases hh

end Go.Proofs.YtahilinkfnchaaaDoor.T
