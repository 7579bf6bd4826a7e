/- Contracts about maps, on the machine: sorted keys, a copy. Nothing of one program. -/
import Derived.Test.YtahilinkfnchaaaDoorTO
import Derived.Shelf.SlIter.Nil
import Derived.StringKeys
import Derived.Shelf.SortM.Plain
import Derived.Shelf.SortM.SortNone
set_option linter.unusedVariables false
set_option linter.unusedSimpArgs false
namespace Go.Proofs.YtahilinkfnchaaaDoor.T
open Go Go.RowKit Go.Shelf Go.Maps Go.Sort Go.MapKept
open Glo (N)
open Go.WideElems (Fit rd rg)

variable {N : Nat} {m : PMap} {h : AHeap} {fr : Nat → Prop} {w w' : World}

/-- Memory grows, and nothing that lay turns. -/
theorem Sim.behind (s : Sim N m h fr w) (hb : Go.RowKit.Below w.heap.size w w') : Sim N m h fr w' := by
  refine ⟨Nat.le_trans s.base hb.size, ?_, s.fresh, s.apart, ?_⟩
  · intro i b hi
    obtain ⟨p, hp, k⟩ := s.blk i b hi
    have hblk := hb.block p.blk k.lt
    refine ⟨p, hp, k.move (PMap.le_refl m) (Nat.lt_of_lt_of_le k.lt hb.size) (fun _ _ q => rangeAt_eq q fun t => World.cell?_of_block (w := w) hblk) (fun _ _ t j hj => ?_) fun _ _ _ q => hblk.trans q⟩
    obtain ⟨a, b⟩ := t j hj
    rw [World.cell?_of_block (w := w) hblk, World.frozen?_of_block (w := w) hblk]
    exact ⟨a, b⟩
  · intro i b hi hes
    obtain ⟨ho, p, r, hp, hr, hl⟩ := s.loop i b hi hes
    exact ⟨ho, p, r, hp, (hb.block p.blk (Array.getElem?_eq_some_iff.1 hr).1).trans hr, hl⟩
theorem Below.behind (hN : N ≤ w.heap.size) (hb : Go.RowKit.Below w.heap.size w w') : Below N w w' :=
  ⟨hb.mono hN, fun k r hr => ⟨r, (hb.block k (Array.getElem?_eq_some_iff.1 hr).1).trans hr, .refl r⟩, fun k d hd => (hb.block k (Array.getElem?_eq_some_iff.1 hd).1).trans hd⟩

/-- A new block of memory is taken up. -/
theorem Sim.adopt (s : Sim N m h fr w) (hb : Go.RowKit.Below w.heap.size w w') {i : Nat} (hi : fr i) {g cap : Nat} {cur : Array Value} {e : TypeId} {cs : List AV} {xs : List Value} (hg : w.heap.size ≤ g) (hc : w'.heap[g]? = some (.cells cur e (0, 0))) (hcap : cur.size = cap)
    (hx : cur.toList.take cs.length = xs) (hl : cs.length ≤ cap) (r : RelL m cs xs) (o : allOne cs = true) :
    Sim N (m.put i ⟨g, 0, cap, 1⟩) (h.put i (some ⟨cs, 1, true⟩)) (fun j => fr j ∧ j ≠ i) w' ∧ m.le (m.put i ⟨g, 0, cap, 1⟩) := by
  obtain ⟨h0, m0⟩ := s.fresh i hi
  have le : m.le (m.put i ⟨g, 0, cap, 1⟩) := fun j p hj => by
    unfold PMap.put; by_cases c : j = i
    · subst c; rw [m0] at hj; cases hj
    · rw [if_neg c]; exact hj
  have s' := s.behind hb
  have hgl := (Array.getElem?_eq_some_iff.1 hc).1
  refine ⟨⟨s'.base, ?_, ?_, ?_, ?_⟩, le⟩
  · intro j b hj
    unfold AHeap.put at hj
    by_cases c : j = i
    · subst c
      rw [if_pos rfl] at hj
      obtain rfl := Option.some.inj hj
      refine ⟨⟨g, 0, cap, 1⟩, by simp [PMap.put], fun _ => rfl, fun _ => hl, hgl, fun _ => ⟨xs, RelL.le le r, ?_⟩, fun _ => o, fun _ => ⟨Nat.le_trans s.base hg, fun _ => ?_⟩, fun hq => (by cases hq), fun he => absurd he (by show ¬ 1 = MB; decide)⟩
      · intro j v hv
        show World.cell? _ ⟨g, 0 + j, none⟩ = some v
        unfold World.cell?
        simp only [hc, Nat.zero_add]
        rw [← hx, List.getElem?_take] at hv
        split at hv
        · rw [Array.getElem?_toList] at hv; exact hv
        · cases hv
      · intro j hj
        show (World.cell? _ ⟨g, 0 + j, none⟩).isSome = true ∧ World.frozen? _ ⟨g, 0 + j, none⟩ = false
        have hj' : j < cur.size := by rw [hcap]; exact hj
        unfold World.cell? World.frozen?
        simp [hc, hj']
    · rw [if_neg c] at hj
      obtain ⟨p, hp, k⟩ := s'.blk j b hj
      exact ⟨p, le j p hp, k.move le k.lt (fun _ _ q => q) (fun _ _ t => t) fun _ _ _ q => q⟩
  · rintro j ⟨hj, c⟩
    unfold AHeap.put PMap.put
    rw [if_neg c, if_neg c]; exact s.fresh j hj
  · intro a b ba bb pa pb hab hha hhb hown hma hmb
    unfold AHeap.put at hha hhb
    unfold PMap.put at hma hmb
    by_cases ca : a = i
    · rw [if_pos ca] at hma
      obtain rfl := Option.some.inj hma
      have cb : b ≠ i := fun c => hab (ca.trans c.symm)
      rw [if_neg cb] at hhb hmb
      obtain ⟨q, hq, k⟩ := s.blk b bb hhb
      rw [hmb] at hq; obtain rfl := Option.some.inj hq
      have := k.lt
      show g ≠ pb.blk
      omega
    · rw [if_neg ca] at hha hma
      by_cases cb : b = i
      · rw [if_pos cb] at hmb
        obtain rfl := Option.some.inj hmb
        obtain ⟨q, hq, k⟩ := s.blk a ba hha
        rw [hma] at hq; obtain rfl := Option.some.inj hq
        have := k.lt
        show pa.blk ≠ g
        omega
      · rw [if_neg cb] at hhb hmb
        exact s.apart a b ba bb pa pb hab hha hhb hown hma hmb
  · intro j b hj hbe
    unfold AHeap.put at hj
    by_cases c : j = i
    · rw [if_pos c] at hj
      obtain rfl := Option.some.inj hj
      exact absurd hbe (by show ¬ LB ≤ 1; decide)
    · rw [if_neg c] at hj
      obtain ⟨ho, p, r0, hp, hr, hl⟩ := s'.loop j b hj hbe
      exact ⟨ho, p, r0, le j p hp, hr, hl⟩

/-! ### keys -/
theorem sortS_len (ks : List ByteArray) : (sortS ks).length = ks.length := by unfold sortS; rw [List.length_map, List.length_mergeSort, List.length_map]
theorem strs_relL (m : PMap) : ∀ ss : List (List UInt8), RelL m ((ss.map fun l => (⟨l.toArray⟩ : ByteArray)).map AV.str) (ss.map encStr)
  | [] => rfl
  | s :: ss => ⟨_, _, rfl, by simp [Rel, encStr], strs_relL m ss⟩

theorem keys_rel {P : Program} {k : TypeId} (hk : P.underlying k = some .string) {m : PMap} : ∀ {es : List AV} {en : List MapEntry} {ks : List ByteArray}, EntRel m es en → keysE es = some ks → (∀ s ∈ ks, s.size ≤ 1000000) →
    (∀ x ∈ en, ∃ y, Go.WideElems.rd (H := Unit) P k (fun _ => some (.lit (.bool true), [])) x = some y) ∧ (strKeys (.map ((en.map (Go.WideElems.rg P k (fun _ => some ((.lit (.bool true) : DataW Unit), [])))).foldr DataW.insert []))).Perm (ks.map fun s => s.data.toList)
  | [], en, ks, r, hks, _ => by
    simp only [EntRel] at r; subst r
    simp only [keysE, Option.some.injEq] at hks; subst hks
    exact ⟨fun x hx => (by cases hx), by simp [strKeys]⟩
  | v :: es, _, ks, ⟨e, r, kk, x, h1, h2, h3, h4, h5⟩, hks, hsz => by
    subst h1 h2
    cases kk with
    | str s =>
      simp only [keysE, Option.map_eq_some_iff] at hks
      obtain ⟨ks', hks', rfl⟩ := hks
      simp only [Rel] at h3
      obtain ⟨i1, i2⟩ := keys_rel hk h5 hks' fun t ht => hsz t (List.mem_cons_of_mem _ ht)
      have hs : s.size ≤ maxLen := Nat.le_trans (hsz s List.mem_cons_self) (by decide)
      have hrd : Go.WideElems.rd (H := Unit) P k (fun _ => some (.lit (.bool true), [])) e = some (.string s.data.toList, .lit (.bool true)) := by
        unfold Go.WideElems.rd; rw [h3, WideMaps.keyOf_string_mk hk hs]; rfl
      have hrg : Go.WideElems.rg (H := Unit) P k (fun _ => some (.lit (.bool true), [])) e = (.string s.data.toList, .lit (.bool true)) := by unfold Go.WideElems.rg; rw [hrd]; rfl
      refine ⟨fun y hy => ?_, ?_⟩
      · rcases List.mem_cons.1 hy with rfl | hy
        · exact ⟨_, hrd⟩
        · exact i1 y hy
      · rw [List.map_cons, List.foldr_cons, hrg]
        have ins : ∀ (p : Lit × DataW Unit) (l : List (Lit × DataW Unit)), (DataW.insert p l).Perm (p :: l) := fun p l => by
          induction l with
          | nil => exact List.Perm.refl _
          | cons q l ih =>
            unfold DataW.insert
            split
            · exact List.Perm.refl _
            · exact (List.Perm.cons q ih).trans (List.Perm.swap p q l)
        have h0 := fun l => (ins (.string s.data.toList, .lit (.bool true)) l).map (fun p : Lit × DataW Unit => strOf p.1)
        refine (h0 _).trans ?_
        rw [List.map_cons, List.map_cons]
        exact List.Perm.cons _ i2
    | _ => simp [keysE] at hks

/-- A map's keys, sorted: the kit's contract at a program, as this machine wants it. -/
theorem orc_keys [Glo] {P : Program} {f : Nat} {kt : TypeId} (hk : P.underlying kt = some .string)
    (c : ∀ (b nn : Nat) (D0 : DataW Unit) (R : Value → Option (DataW Unit × List MemPlace)) (w : World), w.ownsMap P kt R b nn D0 → Maps.size D0 ≤ maxLen → Maps.size D0 * 16 ≤ 140737488355328 →
      Calls P f #[.map (some b)] w fun e w' => ∃ (v : Value) (ss : List (List UInt8)), e = .returned v ∧ ss.Perm (strKeys D0) ∧ w'.ownsRow w.heap.size kt 1 v ss.length ((ss.mergeSort (fun x y => decide (x ≤ y))).map encStr) ∧ (v = .slice none 0 0 ↔ ss = []) ∧ Go.RowKit.Below w.heap.size w w')
    (c0 : ∀ w : World, Calls P f #[.map none] w fun e w' => e = .returned (.slice none 0 0) ∧ Go.RowKit.Below w.heap.size w w') : OrcOk P [3] f := by
  intro m w args xs h nx G v h' nx' hG hh hwd hr s
  obtain ⟨r, rfl, hz⟩ : ∃ r, args = [.mapv r] ∧ orcKeys r h nx = some (v, h', nx') := by
    unfold orcK at hh
    split at hh
    all_goals first
      | (cases hh; done)
      | (rename_i e; simp at e; done)
      | exact ⟨_, rfl, hh⟩
  clear hh
  simp only [RelL] at hr
  obtain ⟨x, _, rfl, hx, rfl⟩ := hr
  unfold orcKeys at hz
  split at hz
  · obtain ⟨rfl, rfl, rfl⟩ : AV.slice none 0 none = v ∧ h = h' ∧ nx = nx' := by simpa using hz
    simp only [Rel] at hx; subst hx
    refine ⟨Nat.le_refl _, (c0 w).mono ?_⟩
    rintro e w' ⟨rfl, hb⟩
    exact ⟨m, _, rfl, by simp [Rel], s.behind hb, PMap.le_refl m, Below.behind s.base hb⟩
  · rename_i r
    obtain ⟨es, hes, hz⟩ := Option.bind_eq_some_iff.1 hz
    obtain ⟨ks, hks, hz⟩ := Option.bind_eq_some_iff.1 hz
    split at hz
    · rename_i hc
      simp only [Bool.and_eq_true, List.all_eq_true, Nat.ble_eq] at hc
      obtain ⟨b, p, en, ck, hb, hbe, hbo, hbc, hp, hm, her, hst, hN⟩ := mapD_ok s hes
      obtain rfl := map_val hx hp
      obtain ⟨k1, k2⟩ := keys_rel hk her hks hc.1
      have hel := her.length
      have hkl : ks.length = es.length := by
        have : ∀ (es : List AV) (ks : List ByteArray), keysE es = some ks → ks.length = es.length := fun es => by
          induction es with
          | nil => intro ks h; simp only [keysE, Option.some.injEq] at h; subst h; rfl
          | cons v es ih =>
            intro ks h
            unfold keysE at h
            split at h
            · rename_i e; cases e
            · rename_i e
              cases e
              obtain ⟨ks', h1, rfl⟩ := Option.map_eq_some_iff.1 h
              simp [ih _ h1]
            · cases h
        exact this es ks hks
      have hsize : en.size ≤ 1000000 := by rw [Array.length_toList] at hel; omega
      obtain ⟨D0, hD0⟩ : ∃ D0 : DataW Unit, D0 = .map ((en.toList.map (Go.WideElems.rg P kt (fun _ => some ((.lit (.bool true) : DataW Unit), [])))).foldr DataW.insert []) := ⟨_, rfl⟩
      have hown : w.ownsMap P kt (fun _ => some ((.lit (.bool true) : DataW Unit), [])) p.blk en.size D0 := ⟨en, ck, hm, ⟨Nat.le_trans hsize (by decide), hst, k1⟩, Nat.le_refl _, hD0⟩
      rw [← hD0] at k2
      have hDs : Maps.size D0 = ks.length := by
        have := k2.length_eq
        rw [List.length_map] at this
        rw [← this, hD0]
        simp [Maps.size, strKeys]
      have hcall := c p.blk en.size D0 _ w hown (by rw [hDs]; exact Nat.le_trans hc.2 (by decide)) (by rw [hDs]; omega)
      have hsrt : ∀ ss : List (List UInt8), ss.Perm (strKeys D0) → (ss.mergeSort fun x y => decide (x ≤ y)) = ((ks.map fun k => k.data.toList).mergeSort fun x y => decide (x ≤ y)) := fun ss hp => mergeSort_of_perm (hp.trans k2)
      split at hz
      · rename_i he
        obtain ⟨rfl, rfl, rfl⟩ : AV.slice none 0 none = v ∧ h = h' ∧ nx = nx' := by simpa using hz
        have : ks = [] := List.isEmpty_iff.1 he
        subst this
        refine ⟨Nat.le_refl _, hcall.mono ?_⟩
        rintro e w' ⟨v, ss, rfl, hp, hrow, hnil, hb⟩
        have hss : ss = [] := by have := (hp.trans k2).length_eq; exact List.length_eq_zero_iff.1 (by simpa using this)
        obtain rfl := hnil.2 hss
        exact ⟨m, _, rfl, by simp [Rel], s.behind hb, PMap.le_refl m, Below.behind s.base hb⟩
      · rename_i he
        obtain ⟨rfl, rfl, rfl⟩ : AV.slice (some (nx, 0)) ks.length none = v ∧ _ = h' ∧ nx + 1 = nx' := by simpa using hz
        have hne : ks ≠ [] := fun q => he (by rw [q]; rfl)
        refine ⟨by omega, hcall.mono ?_⟩
        rintro e w' ⟨v, ss, rfl, hp, hrow, hnil, hb⟩
        have hlen := (hp.trans k2).length_eq
        rw [List.length_map] at hlen
        rcases hrow.2 with ⟨rfl, hz0⟩ | ⟨g, cap, cur, rfl, hg, hcell, hcap, hcm, hcs, htk⟩
        · exact absurd (List.length_eq_zero_iff.1 (by omega)) hne
        · have hcl : ((sortS ks).map AV.str).length = ss.length := by rw [List.length_map, sortS_len, hlen]
          have hsr := hsrt ss hp
          obtain ⟨s2, le⟩ := s.adopt (cs := (sortS ks).map AV.str) (xs := (ss.mergeSort fun x y => decide (x ≤ y)).map encStr) hb (.inr (Nat.le_refl nx)) hg hcell (cap := cap) (by omega) (by rw [hcl]; rw [Nat.mul_one] at htk; exact htk) (by omega)
            (by rw [hsr]; unfold sortS; exact strs_relL m _) (allOne_of fun v hv => by obtain ⟨z, _, rfl⟩ := List.mem_map.1 hv; rfl)
          refine ⟨_, _, rfl, ?_, s2.mono fun j hj => ?_, le, Below.behind s.base hb⟩
          · simp only [Rel]
            exact ⟨⟨g, 0, cap, 1⟩, ⟨g, 0, none⟩, cap, by simp [PMap.put], by rw [hlen], by omega, fun _ q => (by cases q), fun _ => ⟨rfl, by simp⟩⟩
          · rcases hj with hj | hj
            · exact ⟨.inl hj, by have := hG j hj; omega⟩
            · exact ⟨.inr (by omega), by omega⟩
    · cases hz

/-- A map's copy. -/
theorem orc_clone [Glo] {P : Program} {f : Nat} (c : ∀ (b : Nat) (en : Array MapEntry) (ck : Nat) (w : World), w.heap[b]? = some (.map en ck) → Calls P f #[.map (some b)] w fun e w' => ∃ q1 q2, e = .returned (.map (some w.heap.size)) ∧ w' = ((w.drewN q1).alloc (.map en ck)).drewN q2)
    (c0 : ∀ w : World, Calls P f #[.map none] w fun e w' => ∃ q, e = .returned (.map none) ∧ w' = w.drewN q) : OrcOk P [4] f := by
  intro m w args xs h nx G v h' nx' hG hh hwd hr s
  obtain ⟨r, rfl, hz⟩ : ∃ r, args = [.mapv r] ∧ orcClone r h nx = some (v, h', nx') := by
    unfold orcK at hh
    split at hh
    all_goals first
      | (cases hh; done)
      | (rename_i e; simp at e; done)
      | exact ⟨_, rfl, hh⟩
  clear hh
  have drewN : ∀ {N : Nat} {m : PMap} {h : AHeap} {fr : Nat → Prop} {w : World} (q : Nat), Sim N m h fr w → Sim N m h fr (w.drewN q) := fun q s => by
    induction q with
    | zero => exact s
    | succ q ih => exact ih.drew
  have bdrewN : ∀ {N : Nat} {a w : World} (q : Nat), Below N a w → Below N a (w.drewN q) := fun q s => by
    induction q with
    | zero => exact s
    | succ q ih => exact ih.drew
  simp only [RelL] at hr
  obtain ⟨x, _, rfl, hx, rfl⟩ := hr
  unfold orcClone at hz
  split at hz
  · obtain ⟨rfl, rfl, rfl⟩ : AV.mapv none = v ∧ h = h' ∧ nx = nx' := by simpa using hz
    simp only [Rel] at hx; subst hx
    refine ⟨Nat.le_refl _, (c0 w).mono ?_⟩
    rintro e w' ⟨q, rfl, rfl⟩
    exact ⟨m, _, rfl, by simp [Rel], drewN q s, PMap.le_refl m, bdrewN q (Below.refl N w)⟩
  · rename_i r
    obtain ⟨es, hes, hz⟩ := Option.bind_eq_some_iff.1 hz
    obtain ⟨rfl, rfl, rfl⟩ : AV.mapv (some nx) = v ∧ _ = h' ∧ nx + 1 = nx' := by simpa using hz
    obtain ⟨b, p, en, ck, hb, hbe, hbo, hbc, hp, hm, her, hst, hN⟩ := mapD_ok s hes
    obtain rfl := map_val hx hp
    refine ⟨by omega, (c p.blk en ck w hm).mono ?_⟩
    rintro e w' ⟨q1, q2, rfl, rfl⟩
    have hsz : ∀ (q : Nat) (w : World), (w.drewN q).heap.size = w.heap.size := fun q w => by
      induction q with
      | zero => rfl
      | succ q ih => exact ih
    obtain ⟨s2, le⟩ := (drewN q1 s).allocMap (i := nx) (.inr (Nat.le_refl nx)) her hst
    rw [hsz] at s2 le
    refine ⟨_, _, rfl, ?_, (drewN q2 s2).mono fun j hj => ?_, le, bdrewN q2 ((bdrewN q1 (Below.refl N w)).alloc (by rw [hsz]; exact s.base) _)⟩
    · simp only [Rel]
      exact ⟨⟨w.heap.size, 0, 0, MB⟩, by simp [PMap.put], rfl⟩
    · rcases hj with hj | hj
      · exact ⟨.inl hj, by have := hG j hj; omega⟩
      · exact ⟨.inr (by omega), by omega⟩

end Go.Proofs.YtahilinkfnchaaaDoor.T
