/- sort.Slice of pairs of whole numbers, by the first, on the machine: by the kit's contract. Nothing of one program. -/
import Derived.Test.YtophneodoibcgaaTO
import Derived.Shelf.SlSortFuncK.WholeK
import Derived.Shelf.GgSortFunc.Tiny
import Derived.Sort.AssemblyPlain
set_option linter.unusedVariables false
set_option linter.unusedSimpArgs false
namespace Go.Proofs.Ytophneodoibcgaa.T
open Go Go.RowKit Go.Shelf Go.Sort

def encAt (p : Int × Int) : List Value := [.int .i64 p.1, .int .i64 p.2]
theorem swo_ltAt : SWO ltAt where
  irrefl := fun x => by simp [ltAt]
  trans := fun x y z h1 h2 => by simp [ltAt] at *; omega
  ntrans := fun x y z h1 h2 => by simp [ltAt] at *; omega

theorem pdq_out (d : List (Int × Int)) : PermIn 0 d.toArray.size d.toArray (pdq ltAt d.toArray 0 d.length (Go.Lib.bitLen d.length) true true) ∧ SortedIn ltAt 0 d.toArray.size (pdq ltAt d.toArray 0 d.length (Go.Lib.bitLen d.length) true true) := by
  have h := pdq_sorts ltAt swo_ltAt d.toArray 0 d.toArray.size (Lib.bitLen d.toArray.size) true true (Nat.zero_le _) (Nat.le_refl _) (Or.inl rfl)
  rw [show d.toArray.size = d.length from List.size_toArray] at h ⊢
  exact h
theorem sortAt_len (d : List (Int × Int)) : (sortAt d).length = d.length := by
  have := (pdq_out d).1.1
  unfold sortAt
  simpa using this
theorem sortAt_perm (d : List (Int × Int)) : (sortAt d).Perm d := by
  have h := pdq_out d
  have h2 := h.1.2.2
  have hs := h.1.1
  unfold sortAt
  generalize pdq ltAt d.toArray 0 d.length (Go.Lib.bitLen d.length) true true = e at *
  rw [Array.extract_eq_self_of_le (by omega), Array.extract_eq_self_of_le (by omega)] at h2
  simpa using h2
theorem sortAt_sorted (d : List (Int × Int)) : (sortAt d).Pairwise fun p q => p.1 ≤ q.1 := by
  have h := pdq_out d
  have hs := h.1.1
  have h2 := h.2
  unfold sortAt
  generalize pdq ltAt d.toArray 0 d.length (Go.Lib.bitLen d.length) true true = e at *
  rw [List.pairwise_iff_getElem]
  intro i j hi hj hij
  simp only [Array.length_toList] at hi hj
  have := h2 i j (Nat.zero_le _) hij (by rw [← hs]; exact hj)
  rw [getElem!_pos e i hi, getElem!_pos e j hj] at this
  simp only [ltAt, decide_eq_false_iff_not] at this
  simp only [Array.getElem_toList]
  omega

theorem pairsOf_eq : ∀ {l : List AV} {d : List (Int × Int)}, pairsOf l = some d → l = pairCells d
  | [], d, h => by simp [pairsOf] at h; subst h; rfl
  | [v], d, h => by cases v <;> simp [pairsOf] at h <;> rename_i k _ <;> cases k <;> simp [pairsOf] at h
  | v :: u :: l, d, h => by
    cases v with
    | int k n =>
      cases k <;> (try (simp [pairsOf] at h; done))
      cases u with
      | int k2 n2 =>
        cases k2 <;> simp only [pairsOf, Option.map_eq_some_iff, reduceCtorEq] at h
        obtain ⟨us, h1, rfl⟩ := h
        rw [pairsOf_eq h1]; rfl
      | _ => simp [pairsOf] at h
    | _ => simp [pairsOf] at h
theorem pairsOf_mk : ∀ d : List (Int × Int), pairsOf (pairCells d) = some d
  | [] => rfl
  | p :: d => by
    show (pairsOf (pairCells d)).map _ = _
    rw [pairsOf_mk d]; rfl
theorem pairCells_len : ∀ d : List (Int × Int), (pairCells d).length = d.length * 2
  | [] => rfl
  | p :: d => by
    show (pairCells d).length + 2 = _
    rw [pairCells_len d, List.length_cons]; omega
theorem pairCells_one (d : List (Int × Int)) : ∀ v ∈ pairCells d, v.one = true := fun v hv => by
  obtain ⟨r, hr, hv⟩ := List.mem_flatten.1 hv
  obtain ⟨p, _, rfl⟩ := List.mem_map.1 hr
  simp [pairAV] at hv
  rcases hv with rfl | rfl <;> rfl
def encCells (d : List (Int × Int)) : List Value := (d.map encAt).flatten
theorem encCells_len : ∀ d : List (Int × Int), (encCells d).length = d.length * 2
  | [] => rfl
  | p :: d => by
    show (encCells d).length + 2 = _
    rw [encCells_len d, List.length_cons]; omega
theorem pair_relL (m : PMap) : ∀ d : List (Int × Int), RelL m (pairCells d) (encCells d)
  | [] => rfl
  | p :: d => ⟨_, _, rfl, rfl, _, _, rfl, rfl, pair_relL m d⟩
theorem relL_pair {m : PMap} : ∀ {d : List (Int × Int)} {xs : List Value}, RelL m (pairCells d) xs → xs = encCells d
  | [], xs, h => h
  | p :: d, xs, h => by
    obtain ⟨y, q, rfl, rfl, z, r, rfl, rfl, h⟩ := h
    rw [relL_pair h]; rfl
theorem encCells_get : ∀ (d : List (Int × Int)) (t : Nat) (h : t < d.length * 2), (encCells d)[t]? = some ((encAt d[t / 2]!)[t % 2]!)
  | [], t, h => by simp at h
  | p :: d, 0, _ => by simp [encCells, encAt]
  | p :: d, 1, _ => by simp [encCells, encAt]
  | p :: d, t + 2, h => by
    have := encCells_get d t (by simp at h; omega)
    have e1 : (t + 2) / 2 = t / 2 + 1 := by omega
    have e2 : (t + 2) % 2 = t % 2 := by omega
    rw [e1, e2]
    show (encCells d)[t]? = _
    rw [this]
    simp
theorem flat_enc (d : List (Int × Int)) : flatK encAt 2 d.toArray = (encCells d).toArray := by
  apply Array.ext
  · rw [size_flatK, List.size_toArray, List.size_toArray, encCells_len]
  · intro t h1 h2
    have h1' : t < d.toArray.size * 2 := by rw [size_flatK] at h1; exact h1
    have hg := get_flatK encAt 2 d.toArray t h1'
    rw [getElem!_pos _ t h1] at hg
    rw [hg]
    have := encCells_get d t (by simpa using h1')
    have h2' : t < (encCells d).length := by simpa using h2
    rw [List.getElem?_eq_getElem h2'] at this
    simp only [List.getElem_toArray]
    rw [Option.some.inj this]
    simp
theorem putRowK_pairs (w : World) (b off : Nat) (d : List (Int × Int)) : putRowK encAt 2 w b off d.toArray = w.setCells b off (encCells d) := by
  unfold putRowK
  rw [flat_enc, setCells_put]

/-- What a less-function of the program must do: it reads its variable and the two first numbers. -/
def LessAt (P : Program) (g : Nat) : Prop := ∀ (blk off c Bs bo size : Nat) (W : World) (G : Nat → Int), W.cell? ⟨Bs, bo, none⟩ = some (.slice (some ⟨blk, off, none⟩) size c) →
    (∀ t, t < size → W.cell? ⟨blk, off + t * 2, none⟩ = some (.int .i64 (G t))) → ∀ i j : Nat, i < size → j < size → size < 4611686018427387904 →
    Calls P g #[.int .i64 i, .int .i64 j, .pointer (some ⟨Bs, bo, none⟩)] W fun e w' => e = .returned (.bool (decide (G i < G j))) ∧ ∃ q, w' = W.drewN q

theorem orcK_two {t g : Nat} {args : List AV} {h : AHeap} {nx : Nat} {r : AV × AHeap × Nat} (hh : orcK [2, t, g] args h nx = some r) : ∃ a n c vs, args = [.iface t (.slice a n c), .fn g [] vs] ∧ orcSlice a n vs h nx = some r := by
  unfold orcK at hh
  split at hh
  · rename_i e; simp at e
  · rename_i t1 g1 t2 a n c g2 us vs e1
    obtain ⟨rfl, rfl⟩ : t = t1 ∧ g = g1 := by simpa using e1
    split at hh
    · rename_i q
      simp only [Bool.and_eq_true, beq_iff_eq, List.isEmpty_iff] at q
      obtain ⟨⟨rfl, rfl⟩, rfl⟩ := q
      exact ⟨a, n, c, vs, rfl, hh⟩
    · cases hh
  · cases hh

/-- sort.Slice of pairs. -/
theorem orc_slice {P : Program} {ρ : Ren} (L : LaysGg.n6 P ρ) (t e : TypeId) (i ie : TypeInfo) (hi : P.info? t = some i) (hd : i.desc = .slice e) (hpk : P.packed t = false) (hie : P.info? e = some ie) (ke : Nat) (hke : ∀ w, (Extern.Rtype.kind e).run P w = .ok ke w)
    (hs1 : ie.size = 2) (hagg : ∀ w, (isAgg e).run P w = .ok true w) (g : Nat) (eg : ∀ args w, (callFunc g args).run P w = .ok (.enter g args) w) (less : LessAt P g) (f0 f : Nat)
    (hf0 : P.funcs.findIdx? (·.name == "internal/reflectlite" ++ ".Swapper$" ++ toString (Lib.swapperK 0 ie ke)) = some f0)
    (hf : ∀ n, 2 ≤ n → P.funcs.findIdx? (·.name == "internal/reflectlite" ++ ".Swapper$" ++ toString (Lib.swapperK n ie ke)) = some f)
    (gS : Bool) (hx : ∀ args W, (callFunc f args).run P W = ((Extern.ReflectliteSwapper.swap gS args).run P W).andThen fun v w' => .ok (.value v) w') : OrcOk P [2, t, g] (ρ.f 6) := by
  intro N m w args xs h nx G v h' nx' hG hh hr s
  obtain ⟨a, n, c, vs, rfl, hz⟩ := orcK_two hh
  clear hh
  simp only [RelL, Rel] at hr
  obtain ⟨x, _, rfl, ⟨X, rfl, hX⟩, y, _, rfl, ⟨us, ys, rfl, rfl, hys⟩, rfl⟩ := hr
  unfold orcSlice at hz
  split at hz
  · rename_i hn
    subst hn
    obtain ⟨rfl, rfl, rfl⟩ : AV.tuple [] = v ∧ h = h' ∧ nx = nx' := by simpa using hz
    refine ⟨Nat.le_refl _, ?_⟩
    have go : ∀ p cap, X = .slice p 0 cap → Calls P (ρ.f 6) ⟨[.iface t X, .func (.func g) ⟨[]⟩ ⟨ys⟩]⟩ w fun e w' => ∃ m' x, e = .returned x ∧ Rel m' (.tuple []) x ∧ After N m w G m' h nx w' := by
      rintro p cap rfl
      refine (Any.sort_Slice_tiny L t e i ie hi hd hpk hie ke hke p 0 cap (by omega) f0 hf0 (.func g) ⟨[]⟩ ⟨ys⟩ w).mono ?_
      rintro e w' ⟨rfl, os, rfl⟩
      refine ⟨m, _, rfl, by simp [Rel, RelL], ?_⟩
      have hos : os = os.toList.toArray := by simp
      rw [hos]
      exact ⟨Sim.growN _ s, PMap.le_refl m, Below.growN _ (Below.refl N w) s.base⟩
    cases a with
    | none => simp only [Rel] at hX; exact go _ _ hX.2
    | some a => simp only [Rel] at hX; obtain ⟨p, A, c, _, e, _⟩ := hX; exact go _ _ e
  · rename_i hn
    obtain ⟨⟨bi, o⟩, ea, hh1⟩ := Option.bind_eq_some_iff.1 hz
    clear hz
    subst ea
    obtain ⟨bx, hbx, hh2⟩ := Option.bind_eq_some_iff.1 hh1
    clear hh1
    obtain ⟨b, hb, hh3⟩ := Option.bind_eq_some_iff.1 hh2
    clear hh2
    obtain ⟨bb, hbb, hh4⟩ := Option.bind_eq_some_iff.1 hh3
    clear hh3
    split at hh4
    · rename_i hc
      simp only [Bool.and_eq_true, beq_iff_eq, Nat.blt_eq, Bool.not_eq_true', beq_eq_false_iff_ne] at hc
      obtain ⟨⟨⟨⟨⟨⟨⟨rfl, hes⟩, hown⟩, hlen⟩, hlt⟩, hn1⟩, hne⟩, hbox⟩ := hc
      obtain ⟨d, hz, hh5⟩ := Option.bind_eq_some_iff.1 hh4
      clear hh4
      obtain ⟨rfl, rfl, rfl⟩ : AV.tuple [] = v ∧ _ = h' ∧ nx = nx' := by simpa using hh5
      refine ⟨Nat.le_refl _, ?_⟩
      have hds := pairsOf_eq hz
      have hdl : d.length = n := by rw [hds, pairCells_len] at hlen; omega
      -- the box
      obtain ⟨q, hvs⟩ : ∃ q, vs = [.ptr (some (bx, q))] ∧ q = 0 := by
        unfold capOf at hbx
        split at hbx
        · rename_i a1
          split at hbx
          · rename_i h0
            obtain rfl := Option.some.inj hbx
            exact ⟨a1.2, rfl, h0⟩
          · cases hbx
        · cases hbx
      obtain ⟨rfl, rfl⟩ := hvs
      obtain ⟨cb, hcb⟩ : ∃ cb, bb.cells = [.slice (some (bi, 0)) n cb] := by
        unfold boxOf at hbox
        split at hbox
        · rename_i a1 n1 cb e1
          simp only [Bool.and_eq_true, beq_iff_eq] at hbox
          obtain ⟨⟨h1, h2⟩, rfl⟩ := hbox
          exact ⟨cb, by rw [e1, ← h1, ← h2]⟩
        · cases hbox
      simp only [RelL, Rel] at hys
      obtain ⟨z, _, rfl, ⟨pB, hpB, rfl⟩, rfl⟩ := hys
      -- the block
      obtain ⟨p, hp, k⟩ := s.blk bi b hb
      obtain ⟨pB', hpB', kB⟩ := s.blk bx bb hbb
      rw [hpB] at hpB'
      obtain rfl := Option.some.inj hpB'
      simp only [Rel] at hX
      obtain ⟨p', A, cap, hp', rfl, hle, _, hA⟩ := hX
      rw [hp] at hp'
      obtain rfl := Option.some.inj hp'
      obtain ⟨rfl, hfit⟩ := hA (by omega)
      obtain ⟨us, ru, qu⟩ := k.cells
      rw [hds] at ru
      obtain rfl := relL_pair ru
      obtain ⟨uB, ruB, quB⟩ := kB.cells
      rw [hcb] at ruB
      simp only [RelL, Rel] at ruB
      obtain ⟨y0, _, rfl, ⟨p2, A2, cap2, hp2, rfl, hle2, _, hA2⟩, rfl⟩ := ruB
      rw [hp] at hp2
      obtain rfl := Option.some.inj hp2
      obtain ⟨rfl, _⟩ := hA2 (by omega)
      have hcellB : w.cell? ⟨pB.blk, pB.base + 0, none⟩ = some (.slice (some ⟨p.blk, p.base + 0, none⟩) n cap2) := by
        have := quB 0 _ rfl
        simpa using this
      have hcap := k.fits
      obtain ⟨hN, hthere⟩ := k.own hown
      have hel := encCells_len d
      have hlen2 : b.cells.length = n * 2 := hlen
      have hH : HoldsK encAt 2 w p.blk (p.base + 0) d.toArray := by
        unfold HoldsK
        rw [flat_enc]
        intro j hj
        have hj' : j < (encCells d).length := by simpa using hj
        refine ⟨?_, ?_⟩
        · have hg : (encCells d)[j]? = some ((encCells d)[j]'hj') := List.getElem?_eq_getElem hj'
          have := qu j _ hg
          rw [Nat.add_zero, this, getElem!_pos ((encCells d).toArray) j hj]
          simp
        · rw [Nat.add_zero]; exact (hthere j (by omega)).2
      have hblk := k.lt
      have hsz : d.toArray.size < 4611686018427387904 := by rw [List.size_toArray]; have : LB = 4611686018427387904 := rfl; omega
      have hap : p.blk ≠ pB.blk := s.apart bi bx b bb p pB (fun q => hne q.symm) hb hbb hown hp hpB
      have hltB := kB.lt
      have hdsz : d.toArray.size = n := by rw [List.size_toArray]; exact hdl
      have hless : LessReadsK P g ⟨[.pointer (some ⟨pB.blk, pB.base + 0, none⟩)]⟩ encAt 2 ltAt p.blk (p.base + 0) d.toArray.size w := by
        intro m os dk hs i j hi hj
        have e : sortWorldK encAt 2 w p.blk (p.base + 0) m dk os = putRowK encAt 2 (grow (Sort.ahead w m) os) p.blk (p.base + 0) dk := by
          unfold sortWorldK; rw [putRowK_grow _ _ (Sort.ahead w m) _ p.blk (p.base + 0) _ hblk]
        have hHg : HoldsK encAt 2 (grow (Sort.ahead w m) os) p.blk (p.base + 0) d.toArray := holdsK_grow _ _ _ _ _ _ _ hblk (holdsK_ahead _ _ _ _ _ _ _ hH)
        refine less p.blk (p.base + 0) cap2 pB.blk (pB.base + 0) n _ (fun t => dk[t]!.1) ?_ (fun t ht => ?_) i j (by omega) (by omega) (by omega)
        · rw [e, cell?_putRowK_other _ _ _ p.blk (p.base + 0) dk _ (fun q => hap q.symm), cell?_grow _ _ _ (by exact hltB)]; exact hcellB
        · rw [e]; exact ((holdsK_putRowK _ _ _ p.blk (p.base + 0) d.toArray dk hHg hs).cell (i := t) (c := 0) (by omega) (by omega)).1
      have hcall := Any.sort_Slice_cells_eq L t e i ie hi hd hpk hie ke hke encAt 2 (fun _ => rfl) hs1 hagg
        (fun x v hv => by simp [encAt] at hv; rcases hv with rfl | rfl <;> rfl) ltAt swo_ltAt g _ eg p.blk (p.base + 0) cap d.toArray (by omega) hsz f (hf _ (by omega)) gS hx w hless hH hblk
      rw [hdsz] at hcall
      refine hcall.mono ?_
      rintro e w' ⟨rfl, nn, os, rfl⟩
      refine ⟨m, _, rfl, by simp [Rel, RelL], ?_⟩
      have hst : pdq ltAt d.toArray 0 n (Lib.bitLen n) true true = (sortAt d).toArray := by unfold sortAt; rw [hdl]
      rw [hst, putRowK_pairs]
      have hsl : (sortAt d).length = n := by rw [sortAt_len, hdl]
      have hpl : (pairCells (sortAt d)).length = n * 2 := by rw [pairCells_len, hsl]
      have h1 := (s.ahead nn).store hb hp hown 0 (pairCells (sortAt d)) _ (pair_relL m _) (allOne_of (pairCells_one _)) (by omega)
      have hsp : splice b.cells 0 (pairCells (sortAt d)) = pairCells (sortAt d) := by
        unfold splice
        rw [List.take_zero, List.nil_append, hpl, Nat.zero_add, List.drop_of_length_le (by omega), List.append_nil]
      rw [hsp, hes] at h1
      have hos : os = os.toList.toArray := by simp
      rw [hos]
      exact ⟨Sim.growN _ h1, PMap.le_refl m, Below.growN _ (below_setCells hN _ _ _ (Below.aheadN w nn)) h1.base⟩
    · cases hh4

end Go.Proofs.Ytophneodoibcgaa.T
