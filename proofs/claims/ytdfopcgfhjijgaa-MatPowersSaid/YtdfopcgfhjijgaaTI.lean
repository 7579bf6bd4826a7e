/- A law's arguments: slices of whole numbers that a row gives, as blocks of the machine. Nothing of one program. -/
import Derived.Test.YtdfopcgfhjijgaaTS
set_option linter.unusedVariables false
set_option linter.unusedSimpArgs false
namespace Go.Proofs.Ytdfopcgfhjijgaa.T
open Go Go.RowKit

def IsRow (k : IntKind) (w : World) (a : Option Addr) (len cap : Nat) (zs : List Int) : Prop :=
  (a = none ∧ len = 0 ∧ cap = 0 ∧ zs = []) ∨
  ∃ x, a = some x ∧ len ≤ cap ∧ cap ≤ maxLen ∧ zs.length = cap ∧ (∀ i, i < zs.length → w.cell? (x.add i) = some (.int k (zs.getD i 0))) ∧ ∀ n ∈ zs, (Lit.int k n).wf = true

structure Start (w : World) (m : PMap) (h : AHeap) (nx : Nat) (args : List AV) (xs : List Value) : Prop where
  rel : RelL m args xs
  sim : Sim w.heap.size m h (Free (fun _ => False) nx) w

theorem Start.nil (w : World) : Start w (fun _ => none) (fun _ => none) 0 [] [] :=
  ⟨by simp [RelL], ⟨Nat.le_refl _, fun _ _ q => (by cases q), fun _ _ => ⟨rfl, rfl⟩, fun _ _ _ _ _ _ _ q => (by cases q)⟩⟩

variable {w : World} {m : PMap} {h : AHeap} {nx : Nat} {args : List AV} {xs : List Value}

theorem Start.val (s : Start w m h nx args xs) {v : AV} {x : Value} (r : Rel m v x) : Start w m h nx (args ++ [v]) (xs ++ [x]) :=
  ⟨s.rel.append (by simp only [RelL]; exact ⟨x, [], rfl, r, rfl⟩), s.sim⟩
theorem Start.int (s : Start w m h nx args xs) (k : IntKind) (n : Int) : Start w m h nx (args ++ [.int k n]) (xs ++ [.int k n]) := s.val (by simp [Rel])
theorem Start.bool (s : Start w m h nx args xs) (b : Bool) : Start w m h nx (args ++ [.bool b]) (xs ++ [.bool b]) := s.val (by simp [Rel])
theorem Start.str (s : Start w m h nx args xs) (b : ByteArray) : Start w m h nx (args ++ [.str b]) (xs ++ [.string b]) := s.val (by simp [Rel])

theorem relL_ints (m : PMap) (k : IntKind) : ∀ zs : List Int, RelL m (zs.map (AV.int k)) (zs.map (Value.int k))
  | [] => by simp [RelL]
  | z :: zs => by simp only [List.map_cons, RelL]; exact ⟨_, _, rfl, by simp [Rel], relL_ints m k zs⟩

theorem PMap.le_put {m : PMap} {i : Nat} {p : Place} (h : m i = none) : m.le (m.put i p) := fun j q hj => by
  unfold PMap.put; by_cases c : j = i
  · subst c; rw [h] at hj; cases hj
  · rw [if_neg c]; exact hj

theorem Start.ints (s : Start w m h nx args xs) {k : IntKind} {a : Option Addr} {len cap : Nat} {zs : List Int} (r : IsRow k w a len cap zs) :
    ∃ m' h' nx' a', Start w m' h' nx' (args ++ [.slice a' len false]) (xs ++ [.slice a len cap]) ∧ (zs.take len).length = len ∧ (∀ n ∈ zs.take len, (Lit.int k n).wf = true) ∧ Sl h' nx' a' len 1 ((zs.take len).map (AV.int k)) ∧ Ext h nx h' nx' := by
  rcases r with ⟨rfl, rfl, rfl, rfl⟩ | ⟨x, rfl, hl, hm, hz, hc, hw⟩
  · exact ⟨m, h, nx, none, s.val (by simp [Rel]), by simp, by simp, ⟨by simp, fun j hj => by omega⟩, Ext.refl _ _⟩
  · obtain ⟨f0, f1⟩ := s.sim.fresh nx (.inr (Nat.le_refl _))
    have hlen : (zs.take len).length = len := by simp; omega
    have hwf : ∀ n ∈ zs.take len, (Lit.int k n).wf = true := fun n hn => hw n (List.mem_of_mem_take hn)
    by_cases c0 : cap = 0
    · obtain rfl : len = 0 := by omega
      subst c0
      have le : m.le (m.put nx ⟨0, 0, 0, 1⟩) := PMap.le_put f1
      refine ⟨m.put nx ⟨0, 0, 0, 1⟩, h, nx + 1, some (nx, 0), ⟨(RelL.le le s.rel).append ?_, ⟨s.sim.base, ?_, ?_, ?_⟩⟩, hlen, hwf, ⟨by simp, fun j hj => by omega⟩, ⟨by omega, fun _ _ => rfl⟩⟩
      · simp only [RelL, Rel]
        exact ⟨_, [], rfl, ⟨⟨0, 0, 0, 1⟩, x, 0, by simp [PMap.put], rfl, Nat.le_refl _, by simp, by simp⟩, rfl⟩
      · intro i b hb
        obtain ⟨p, hp, q⟩ := s.sim.blk i b hb
        obtain ⟨us, ru, qu⟩ := q.cells
        exact ⟨p, le i p hp, q.es, q.fits, q.lt, ⟨us, RelL.le le ru, qu⟩, q.one, q.own, q.old⟩
      · intro i hi
        rcases hi with hi | hi
        · exact hi.elim
        · have := s.sim.fresh i (.inr (by omega))
          unfold PMap.put; rw [if_neg (by omega)]; exact this
      · intro i j bi bj pi pj hij hi hj ho hmi hmj
        obtain ⟨qi, ei, _⟩ := s.sim.blk i bi hi
        obtain ⟨qj, ej, _⟩ := s.sim.blk j bj hj
        have e1 := le i qi ei; rw [hmi] at e1; obtain rfl := Option.some.inj e1
        have e2 := le j qj ej; rw [hmj] at e2; obtain rfl := Option.some.inj e2
        exact s.sim.apart i j bi bj pi pj hij hi hj ho ei ej
    · have hc0 := hc 0 (by omega)
      have hspot : x.spot = none ∧ x.block < w.heap.size := by
        rw [show x.add 0 = x by simp [Addr.add]] at hc0
        unfold World.cell? at hc0
        split at hc0
        · rename_i q
          have hlt := (Array.getElem?_eq_some_iff.1 q).1
          split at hc0
          · cases hc0
          · rename_i e
            exact ⟨by cases hs : x.spot with | none => rfl | some _ => rw [hs] at e; simp at e, hlt⟩
        · cases hc0
      have hx : x = ⟨x.block, x.off, none⟩ := by cases x; simp at hspot ⊢; exact hspot.1
      have hadd : ∀ i, x.add i = ⟨x.block, x.off + i, none⟩ := by
        intro i; unfold Addr.add
        by_cases e : i = 0
        · rw [if_pos e]; subst e; exact hx
        · rw [if_neg e]
      have le : m.le (m.put nx ⟨x.block, x.off, cap, 1⟩) := PMap.le_put f1
      refine ⟨m.put nx ⟨x.block, x.off, cap, 1⟩, h.put nx (some ⟨zs.map (AV.int k), 1, false⟩), nx + 1, some (nx, 0), ⟨(RelL.le le s.rel).append ?_, ⟨s.sim.base, ?_, ?_, ?_⟩⟩, hlen, hwf, ⟨by rw [List.length_map, hlen, Nat.mul_one], ?_⟩, ⟨by omega, fun i hi => put_ne (by omega)⟩⟩
      · simp only [RelL, Rel]
        exact ⟨_, [], rfl, ⟨⟨x.block, x.off, cap, 1⟩, x, cap, by simp [PMap.put], rfl, hl, by simp, fun _ => ⟨by simpa using hx, by simp⟩⟩, rfl⟩
      · intro i b hb
        unfold AHeap.put at hb
        by_cases c : i = nx
        · subst c
          rw [if_pos rfl] at hb
          obtain rfl := Option.some.inj hb
          refine ⟨⟨x.block, x.off, cap, 1⟩, by simp [PMap.put], rfl, by simp [hz], hspot.2, ⟨zs.map (Value.int k), relL_ints _ _ _, ?_⟩, ?_, by simp, fun _ => hspot.2⟩
          · intro j v hv
            have hj : j < zs.length := by have := (List.getElem?_eq_some_iff.1 hv).1; simpa using this
            have := hc j hj
            rw [hadd] at this
            show w.cell? ⟨x.block, x.off + j, none⟩ = some v
            rw [this, ← hv, List.getElem?_map, List.getElem?_eq_getElem hj]
            simp [List.getD, List.getElem?_eq_getElem hj]
          · exact allOne_of fun v hv => by
              obtain ⟨z, _, rfl⟩ := List.mem_map.1 hv; rfl
        · rw [if_neg c] at hb
          obtain ⟨p, hp, q⟩ := s.sim.blk i b hb
          obtain ⟨us, ru, qu⟩ := q.cells
          exact ⟨p, le i p hp, q.es, q.fits, q.lt, ⟨us, RelL.le le ru, qu⟩, q.one, q.own, q.old⟩
      · intro i hi
        rcases hi with hi | hi
        · exact hi.elim
        · have := s.sim.fresh i (.inr (by omega))
          unfold PMap.put AHeap.put; rw [if_neg (by omega), if_neg (by omega)]; exact this
      · intro i j bi bj pi pj hij hi hj ho hmi hmj
        unfold AHeap.put at hi hj
        by_cases ci : i = nx
        · rw [if_pos ci] at hi
          obtain rfl := Option.some.inj hi
          cases ho
        · rw [if_neg ci] at hi
          obtain ⟨qi, ei, oi⟩ := s.sim.blk i bi hi
          have e1 := le i qi ei; rw [hmi] at e1; obtain rfl := Option.some.inj e1
          by_cases cj : j = nx
          · have e2 : pj = ⟨x.block, x.off, cap, 1⟩ := by subst cj; simpa [PMap.put] using hmj.symm
            subst e2
            have := (oi.own ho).1
            show pi.blk ≠ x.block
            omega
          · rw [if_neg cj] at hj
            obtain ⟨qj, ej, _⟩ := s.sim.blk j bj hj
            have e2 := le j qj ej; rw [hmj] at e2; obtain rfl := Option.some.inj e2
            exact s.sim.apart i j bi bj pi pj hij hi hj ho ei ej
      · intro j hj
        refine ⟨(nx, 0), _, rfl, by simp, by simp [AHeap.put]; rfl, rfl, by simp [hz]; omega, fun q hq => ?_⟩
        simp only [Nat.zero_add, List.getElem?_map]
        rw [List.getElem?_take, if_pos (by omega)]

theorem law_mem {P : Program} (hm : P.follows .mixedOrders = true) (kp : Nat → Keep) {n f : Nat} (s : Start w m h nx args xs) {h' : AHeap} {nx' : Nat}
    (hc : callP P kp n f args h nx = some (.bool true, h', nx')) : Calls P f ⟨xs⟩ w fun e w' => e = .returned (.bool true) ∧ Below w.heap.size w w' := by
  obtain ⟨_, _, hcalls⟩ := callP_ok hm kp n w.heap.size m w f args xs h nx (fun _ => False) _ _ _ (fun _ q => q.elim) hc s.rel s.sim
  refine hcalls.mono ?_
  rintro e w' ⟨m', x, rfl, hx, ha⟩
  simp only [Rel] at hx
  exact ⟨by rw [hx], ha.below⟩

end Go.Proofs.Ytdfopcgfhjijgaa.T
