/- Functions that are known by a contract: the library's sort of whole numbers. Nothing of one program. -/
import Derived.Test.YtahilinkfnchaaaDoorTK
import Derived.Shelf.Sort.Plain
import Derived.Shelf.Slices.In.SortNone
set_option linter.unusedVariables false
set_option linter.unusedSimpArgs false
namespace Go.Proofs.YtahilinkfnchaaaDoor.T
open Go Go.RowKit Go.Shelf
open Glo (N)

theorem setCells_put (b : Nat) : ∀ (vs : List Value) (off : Nat) (w : World), w.setCells b off vs = Go.Sort.putRow id w b off vs.toArray
  | [], off, w => by
    unfold World.setCells Go.Sort.putRow
    have : Go.Sort.putCells (α := Value) id off ([] : List Value).toArray = id := by
      funext c
      apply Array.ext_getElem?
      intro k
      simp only [Go.Sort.putCells, Array.getElem?_mapIdx, id]
      cases c[k]? with
      | none => rfl
      | some y => simp only [Option.map_some]; rw [if_neg (by simp)]
    rw [this, Go.Sort.mapBlock_id]; intros; rfl
  | v :: vs, off, w => by
    rw [World.setCells, setCells_put b vs (off + 1), Go.Sort.setCell_eq]
    unfold Go.Sort.putRow
    rw [Go.Sort.mapBlock_mapBlock]
    congr 1
    funext c
    apply Array.ext_getElem?
    intro k
    simp only [Go.Sort.putCells, Array.getElem?_mapIdx, Array.getElem?_setIfInBounds, List.size_toArray, List.length_cons, id]
    by_cases hk : off = k
    · subst hk
      rw [if_pos rfl]
      by_cases hc : off < c.size
      · rw [if_pos hc, Array.getElem?_eq_getElem hc, Option.map_some, Option.map_some, if_neg (by omega), if_pos ⟨by omega, by omega⟩]
        simp
      · rw [if_neg hc, Array.getElem?_eq_none (by omega)]; rfl
    · rw [if_neg hk]
      cases c[k]? with
      | none => rfl
      | some y =>
        simp only [Option.map_some]
        by_cases hr : off + 1 ≤ k ∧ k < off + 1 + vs.length
        · rw [if_pos hr, if_pos ⟨by omega, by omega⟩]
          have e : k - off = (k - (off + 1)) + 1 := by omega
          rw [e, getElem!_pos _ _ (by simp; omega), getElem!_pos _ _ (by simp; omega)]
          simp
        · rw [if_neg hr, if_neg (by omega)]

theorem putRow_ints (w : World) (b off : Nat) (zs : List Int) : Go.Sort.putRow (Value.int .i64) w b off zs.toArray = w.setCells b off (zs.map (Value.int .i64)) := by
  rw [setCells_put]
  unfold Go.Sort.putRow
  congr 1
  funext c
  apply Array.ext_getElem?
  intro k
  simp only [Go.Sort.putCells, Array.getElem?_mapIdx, List.size_toArray, List.length_map, id]
  cases c[k]? with
  | none => rfl
  | some y =>
    simp only [Option.map_some]
    by_cases hr : off ≤ k ∧ k < off + zs.length
    · rw [if_pos hr, if_pos hr, getElem!_pos _ _ (by simp; omega), getElem!_pos _ _ (by simp; omega)]
      simp
    · rw [if_neg hr, if_neg hr]

variable {N : Nat} {m : PMap} {h : AHeap} {fr : Nat → Prop} {w : World}
theorem Sim.ahead (s : Sim N m h fr w) : ∀ n, Sim N m h fr (Go.Sort.ahead w n)
  | 0 => s
  | n + 1 => by rw [← Go.Sort.ahead_drew]; exact (Sim.ahead s n).drew
theorem Below.aheadN (w : World) : ∀ n, Below N w (Go.Sort.ahead w n)
  | 0 => Below.refl N w
  | n + 1 => by rw [← Go.Sort.ahead_drew]; exact (Below.aheadN w n).drew
theorem grow_cons (w : World) (o : Obj) (os : List Obj) : Go.Sort.grow w (o :: os).toArray = Go.Sort.grow (w.alloc o) os.toArray := by
  rw [Go.Sort.alloc_eq_grow, Go.Sort.grow_grow]; simp
theorem Sim.growN : ∀ (os : List Obj) {w : World}, Sim N m h fr w → Sim N m h fr (Go.Sort.grow w os.toArray)
  | [], _, s => by simpa using s
  | o :: os, _, s => by rw [grow_cons]; exact Sim.growN os (s.allocOther o)
theorem Below.growN {a : World} : ∀ (os : List Obj) {w : World}, Below N a w → N ≤ w.heap.size → Below N a (Go.Sort.grow w os.toArray)
  | [], _, s, _ => by simpa using s
  | o :: os, w, s, hn => by rw [grow_cons]; exact Below.growN os (s.alloc hn o) (by simp; omega)

theorem intsOf_eq : ∀ {l : List AV} {zs : List Int}, intsOf l = some zs → l = zs.map (AV.int .i64)
  | [], zs, h => by simp [intsOf] at h; subst h; rfl
  | v :: l, zs, h => by
    cases v with
    | int k n =>
      cases k <;> simp only [intsOf, Option.map_eq_some_iff, reduceCtorEq] at h
      obtain ⟨us, h1, rfl⟩ := h
      rw [intsOf_eq h1]; rfl
    | _ => simp [intsOf] at h
theorem intsOf_mk : ∀ zs : List Int, intsOf (zs.map (AV.int .i64)) = some zs
  | [] => rfl
  | z :: zs => by simp [intsOf, intsOf_mk zs]
theorem relL_ints {m : PMap} : ∀ {zs : List Int} {xs : List Value}, RelL m (zs.map (AV.int .i64)) xs → xs = zs.map (Value.int .i64)
  | [], xs, h => by simpa [RelL] using h
  | z :: zs, xs, h => by
    simp only [List.map_cons, RelL, Rel] at h
    obtain ⟨y, q, rfl, rfl, r⟩ := h
    rw [relL_ints r]; rfl
theorem ints_relL (m : PMap) : ∀ zs : List Int, RelL m (zs.map (AV.int .i64)) (zs.map (Value.int .i64))
  | [] => by simp [RelL]
  | z :: zs => by simp only [List.map_cons, RelL, Rel]; exact ⟨_, _, rfl, rfl, ints_relL m zs⟩

theorem orcK_one {args : List AV} {h : AHeap} {nx : Nat} {r : AV × AHeap × Nat} (hh : orcK [1] args h nx = some r) : ∃ a n c, args = [.slice a n c] ∧
    (if n = 0 then some (.tuple [], h, nx) else a.bind fun p => (h p.1).bind fun b =>
      if (p.2 == 0 && b.es == 1 && b.own && b.cells.length == n && Nat.blt n LB) = true then (intsOf b.cells).bind fun zs => some (.tuple [], h.put p.1 (some ⟨(zs.mergeSort fun x y => decide (x ≤ y)).map (AV.int .i64), 1, true⟩), nx) else none) = some r := by
  unfold orcK at hh
  split at hh
  · exact ⟨_, _, _, rfl, hh⟩
  all_goals first
    | (cases hh; done)
    | (rename_i e; simp at e; done)

/-- slices.Sort of whole numbers. -/
theorem orc_sort [Glo] {P : Program} {ρ : Ren} (Ly : Lays.n189 P ρ) : OrcOk P [1] (ρ.f 189) := by
  intro m w args xs h nx G v h' nx' hG hh hwd hr s
  obtain ⟨a, n, c, rfl, hz⟩ := orcK_one hh
  clear hh
  have hh := hz
  clear hz
  simp only [RelL] at hr
  obtain ⟨x, _, rfl, hx, rfl⟩ := hr
  split at hh
  · rename_i hn
    subst hn
    obtain ⟨rfl, rfl, rfl⟩ : AV.tuple [] = v ∧ h = h' ∧ nx = nx' := by simpa using hh
    refine ⟨Nat.le_refl _, ?_⟩
    have go : ∀ p cap, x = .slice p 0 cap → Calls P (ρ.f 189) ⟨[x]⟩ w fun e w' => ∃ m' x, e = .returned x ∧ Rel m' (.tuple []) x ∧ After N m w G m' h nx w' := by
      rintro p cap rfl
      refine (Any.slices_Sort_int_none Ly p cap w).mono ?_
      rintro e w' ⟨rfl, rfl⟩
      exact ⟨m, _, rfl, by simp [Rel, RelL], After.refl s⟩
    cases a with
    | none => simp only [Rel] at hx; exact go _ _ hx.2
    | some a => simp only [Rel] at hx; obtain ⟨p, A, c, _, e, _⟩ := hx; exact go _ _ e
  · rename_i hn
    obtain ⟨⟨bi, o⟩, ea, hh1⟩ := Option.bind_eq_some_iff.1 hh
    clear hh
    subst ea
    obtain ⟨b, hb, hh2⟩ := Option.bind_eq_some_iff.1 hh1
    clear hh1
    split at hh2
    · rename_i hc
      simp only [Bool.and_eq_true, beq_iff_eq, Nat.blt_eq] at hc
      obtain ⟨⟨⟨⟨rfl, hes⟩, hown⟩, hlen⟩, hlt⟩ := hc
      obtain ⟨zs, hz, hh3⟩ := Option.bind_eq_some_iff.1 hh2
      clear hh2
      obtain ⟨rfl, rfl, rfl⟩ : AV.tuple [] = v ∧ _ = h' ∧ nx = nx' := by simpa using hh3
      refine ⟨Nat.le_refl _, ?_⟩
      have hzs := intsOf_eq hz
      obtain ⟨p, hp, k⟩ := s.blk bi b hb
      simp only [Rel] at hx
      obtain ⟨p', A, cap, hp', rfl, hle, _, hA⟩ := hx
      rw [hp] at hp'
      obtain rfl := Option.some.inj hp'
      have hln : zs.length = n := by rw [hzs] at hlen; simpa using hlen
      obtain ⟨rfl, hfit⟩ := hA (by omega)
      have hne : b.es ≠ MB := by rw [hes]; decide
      obtain ⟨us, ru, qu⟩ := k.cells hne
      rw [hzs] at ru
      obtain rfl := relL_ints ru
      have hcap := k.fits hne
      obtain ⟨hN, hthere⟩ := k.own hown
      have hthere := hthere hne
      have hH : Go.Sort.Holds (Value.int .i64) w p.blk (p.base + 0) zs.toArray := by
        intro j hj
        have hj' : j < zs.length := by simpa using hj
        refine ⟨?_, ?_⟩
        · have := qu j (.int .i64 zs[j]) (by simp [hj'])
          rw [Nat.add_zero, this, getElem!_pos (zs.toArray) j hj]
          simp
        · rw [Nat.add_zero]; exact (hthere j (by omega)).2
      have hcall := Any.slices_Sort_int Ly p.blk (p.base + 0) cap zs w hH k.lt (by have : LB = 4611686018427387904 := rfl; omega)
      rw [hln] at hcall
      refine hcall.mono ?_
      rintro e w' ⟨rfl, nn, os, rfl⟩
      refine ⟨m, _, rfl, by simp [Rel, RelL], ?_⟩
      rw [putRow_ints]
      have hsl : (zs.mergeSort fun x y => decide (x ≤ y)).length = zs.length := List.length_mergeSort _
      have h1 := (s.ahead nn).store hb hp hown 0 ((zs.mergeSort fun x y => decide (x ≤ y)).map (AV.int .i64)) _ (ints_relL m _) (allOne_of (fun v hv => by obtain ⟨z, _, rfl⟩ := List.mem_map.1 hv; rfl)) (by rw [List.length_map, hsl]; omega) hne
      have hsp : splice b.cells 0 ((zs.mergeSort fun x y => decide (x ≤ y)).map (AV.int .i64)) = (zs.mergeSort fun x y => decide (x ≤ y)).map (AV.int .i64) := by
        unfold splice
        rw [List.take_zero, List.nil_append, List.length_map, hsl, Nat.zero_add, List.drop_of_length_le (by omega), List.append_nil]
      rw [hsp, hes] at h1
      have hos : os = os.toList.toArray := by simp
      rw [hos]
      exact ⟨Sim.growN _ h1, PMap.le_refl m, Below.growN _ (below_setCells hN _ _ _ (Below.aheadN w nn)) h1.base⟩
    · cases hh2

end Go.Proofs.YtahilinkfnchaaaDoor.T
