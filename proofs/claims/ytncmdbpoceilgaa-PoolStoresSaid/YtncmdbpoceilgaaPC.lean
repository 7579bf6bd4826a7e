/- Pools: Commands. -/
import Derived.Test.YtncmdbpoceilgaaPB
set_option linter.unusedVariables false
set_option linter.unusedSimpArgs false
namespace Go.Proofs.Ytncmdbpoceilgaa.T
open Go Go.RowKit Go.Proofs
set_option maxRecDepth 10000

theorem OrdR.go {h h' : AHeap} {nx nx' : Nat} {A A' D : Nat → Prop} {c : Ord} {r : List AV} (b : OrdR h nx A c r) (f : Frm D h nx h' nx') (d : ∀ i, i < nx → D i → A i) (g : ∀ i, i < nx → A' i → A i) : OrdR h' nx' A' c r := by
  obtain ⟨da, dc, e, s, v⟩ := b
  exact ⟨da, dc, e, s.fr (v.go s d) f, v.go s g⟩

/-- One row more, behind a call: rows told by CmdR, the call's blocks are younger. -/
theorem push_cmd {h h2 : AHeap} {nx n2 m id id2 : Nat} {a : Option (Nat × Nat)} {outs : List Cmd} (w : OwnRows (CmdR h nx (ownOf a)) h nx a 8 outs) (x : Ext h nx h2 n2) (ac : Option Nat) {c : Cmd} {row : List AV} (cr : CmdR h2 n2 (fun j => ownOf a j ∨ j = id ∨ j = id2) c row)
    (h1 : nx ≤ id) (h12 : id < id2) (h3 : id2 < n2) (hn : n2 ≤ m) (hl : outs.length ≤ 1000) :
    ∃ e, srcS (h2.put id (some ⟨row, 8, true⟩)) (some (id, 0)) 1 8 = some (1, row, [id]) ∧ appD (h2.put id (some ⟨row, 8, true⟩)) a outs.length ac 8 96 id2 (1, row, [id]) = some e ∧ e.n = (outs ++ [c]).length ∧ (∀ j, ownOf e.a j → j = id2) ∧
      OwnRows (CmdR ((h2.put id (some ⟨row, 8, true⟩)).puts e.sets) m (ownOf e.a)) ((h2.put id (some ⟨row, 8, true⟩)).puts e.sets) m e.a 8 (outs ++ [c]) ∧ Frm (fun j => ownOf a j ∨ j = id ∨ j = id2) h2 n2 ((h2.put id (some ⟨row, 8, true⟩)).puts e.sets) m := by
  have w1 : OwnRows (CmdR h2 n2 fun j => ownOf a j ∨ j = id ∨ j = id2) h2 id a 8 outs := by
    have f3 : Frm (fun _ => False) h nx h2 id := ⟨by omega, fun i hi _ => x.2 i hi⟩
    refine w.go f3 (fun _ _ q => q) fun t r q => q.go (x.fr fun _ => False) (fun _ _ q => q.elim) fun j hj hb => ?_
    rcases hb with hb | hb | hb
    · exact hb
    · omega
    · omega
  obtain ⟨e, a1, a2, a3, a4, a5, a6, a7, a8⟩ := w1.push ac (bytes := 96) (id := id) (id2 := id2) (x := c) (r := row) cr.len cr (growOk_of (by omega) (by omega)) (Nat.le_refl _) h12
  have hown : ∀ j, ownOf e.a j → j = id2 := fun j ⟨oo, hj⟩ => by rw [a3] at hj; exact (Prod.mk.inj (Option.some.inj hj)).1.symm
  have fX : Frm (fun j => ownOf a j ∨ j = id ∨ j = id2) h2 n2 ((h2.put id (some ⟨row, 8, true⟩)).puts e.sets) m := ⟨hn, fun j hj hb => by
    rw [puts_get _ _ (fun hm => hb (by rcases a8 j hm with h | h; exact .inl h; exact .inr (.inr h))), put_ne (fun h => hb (.inr (.inl h)))]⟩
  refine ⟨e, a1, a2, by rw [a4]; simp, hown, ?_, fX⟩
  have f5 : Frm (fun _ => False) ((h2.put id (some ⟨row, 8, true⟩)).puts e.sets) (id2 + 1) ((h2.put id (some ⟨row, 8, true⟩)).puts e.sets) m := ⟨by omega, fun _ _ _ => rfl⟩
  exact a5.go f5 (fun _ _ q => q) fun t r q => q.go fX (fun _ _ hj => hj) fun j _ hj => .inr (.inr (hown j hj))

theorem commands_loop {f lf : Nat} (hf : 10 ≤ f) (Y : YldF) {h0 : AHeap} {n0 : Nat} {oa : Option (Nat × Nat)} (oc : Option Nat) {os : List Ord} {A0 : Nat → Prop} (rows : Rows (OrdR h0 n0 A0) h0 n0 A0 oa 6 os) {ka : Option (Nat × Nat)} (kc : Option Nat) {kinds : List Int} (sk : Sl h0 n0 ka kinds.length 1 (ints .i64 kinds)) (hk : 1 ≤ kinds.length ∧ kinds.length ≤ 1000) (M : Nat) (hM : M ≤ 100) :
    ∀ (d n1 i : Nat) (h : AHeap) (nx : Nat) (a : Option (Nat × Nat)) (ac : Option Nat) (outs : List Cmd), min os.length M = i + d → d < n1 → Ext h0 n0 h nx → OwnRows (CmdR h nx (ownOf a)) h nx a 8 outs → (∀ j, ownOf a j → n0 ≤ j) → outs.length = i →
      ∃ a' ac' h' nx', F7_L1 (callP Try.prog keepT f) Y lf n1 oa os.length oc (M : Int) ka kinds.length kc a outs.length ac (i : Int) h nx = some (.slice a' (outs ++ ((os.take M).drop i).map fun o => cmdOf o kinds).length ac', h', nx') ∧
        Ext h0 n0 h' nx' ∧ OwnRows (CmdR h' nx' (ownOf a')) h' nx' a' 8 (outs ++ ((os.take M).drop i).map fun o => cmdOf o kinds) ∧ ∀ j, ownOf a' j → n0 ≤ j
  | 0, n1 + 1, i, h, nx, a, ac, outs, hd, _, x, w, hown, hl => by
    rw [show (os.take M).drop i = [] from List.drop_eq_nil_of_le (by simp; omega), List.map_nil, List.append_nil, F7_L1_eq]
    have fin : ∃ a' ac' h' nx', some (AV.slice a outs.length ac, h, nx + 11) = some (.slice a' outs.length ac', h', nx') ∧ Ext h0 n0 h' nx' ∧ OwnRows (CmdR h' nx' (ownOf a')) h' nx' a' 8 outs ∧ ∀ j, ownOf a' j → n0 ≤ j :=
      ⟨a, ac, h, nx + 11, rfl, x.le (by omega), w.go (D := fun _ => False) ⟨by omega, fun _ _ _ => rfl⟩ (fun _ _ q => q) fun t r q => q.go (D := fun _ => False) ⟨by omega, fun _ _ _ => rfl⟩ (fun _ _ q => q.elim) fun _ _ q => q, hown⟩
    by_cases c : i < os.length
    · rw [if_pos (by simp; omega), if_neg (by simp; omega)]; exact fin
    · rw [if_neg (by simp; omega)]; exact fin
  | d + 1, n1 + 1, i, h, nx, a, ac, outs, hd, hn1, x, w, hown, hl => by
    have hi : i < os.length := by omega
    have hi2 : i < (os.take M).length := by simp; omega
    have hdrop : (os.take M).drop i = (os.take M)[i] :: (os.take M).drop (i + 1) := List.drop_eq_getElem_cons hi2
    have hget : os[i]? = some os[i] := List.getElem?_eq_getElem hi
    rw [hdrop, List.getElem_take]
    generalize os[i] = o at hget
    have rows1 : Rows (OrdR h nx fun _ => False) h nx (fun _ => False) oa 6 os := rows.go (x.fr fun _ => False) (fun _ _ q => q.elim) (fun _ _ q => q.elim) fun _ _ r => r.go (x.fr fun _ => False) (fun _ _ q => q.elim) (fun _ _ q => q.elim)
    obtain ⟨r, ⟨da, dc, rfl, sd, _⟩, _, hread, _⟩ := rows1.read (R := AV × AHeap × Nat) hget
    rw [F7_L1_eq, if_pos (by simp; omega), if_pos (by simp; omega), F7_J2_eq]
    dsimp only
    rw [hread]
    have e0 : Ext h nx h (nx + 9 + 10) := (Ext.refl h nx).le (by omega)
    obtain ⟨row, h2, n2, g1, g2, g3⟩ := commandOf_spec (f := f) hf Y o dc (sd.ext e0) kc ((sk.ext x).ext e0) hk
    unfold ordV
    unfold ordV at g1
    simp only [mst_, mst5_]
    rw [g1]
    have hn2 : nx + 9 + 10 ≤ n2 := g2.1
    have x2 : Ext h nx h2 n2 := ⟨by omega, fun j hj => g2.2 j (by omega)⟩
    have hlow : ∀ j, ownOf a j → j < nx := fun j hj => w.low hj
    have cr : CmdR h2 n2 (fun j => ownOf a j ∨ j = nx + 9 + 7 ∨ j = nx + 9 + 8) (cmdOf o kinds) row := g3.go (Frm.refl (fun _ => False) h2 n2) (fun _ _ q => q.elim) fun j _ hj => by
      unfold Old
      rcases hj with hj | hj | hj
      · have := hlow j hj; omega
      · omega
      · omega
    obtain ⟨e, a1, a2, a3, a4, a5, a6⟩ := push_cmd (m := n2 + 3) w x2 ac cr (id := nx + 9 + 7) (id2 := nx + 9 + 8) (by omega) (by omega) (by omega) (by omega) (by omega)
    obtain ⟨x5, x6, ca, cc, hrow, _⟩ := cr
    subst hrow
    unfold cmdV at a1 a2 a5 a6 ⊢
    simp only [mst_, mst5_]
    rw [a1]
    simp only [mst_, mst5_]
    rw [a2]
    simp only [mst_, mst5_]
    rw [wsucc (by omega), a3]
    obtain ⟨a', ac', h', nx', k1, k2, k3, k4⟩ := commands_loop (lf := lf) hf Y oc rows kc sk hk M hM d n1 (i + 1) _ (n2 + 3) e.a e.c (outs ++ [cmdOf o kinds]) (by omega) (by omega)
      ⟨by have := x.1; omega, fun j hj => by
        have := x.1
        rw [a6.2 j (by omega) (fun hb => by rcases hb with hb | hb | hb; have := hown j hb; omega; omega; omega), x2.2 j (by omega)]
        exact x.2 j hj⟩ a5 (fun j hj => by have := a4 j hj; have := x.1; omega) (by simp; omega)
    rw [show outs ++ List.map (fun o => cmdOf o kinds) (o :: (os.take M).drop (i + 1)) = (outs ++ [cmdOf o kinds]) ++ List.map (fun o => cmdOf o kinds) ((os.take M).drop (i + 1)) from by simp]
    exact ⟨a', ac', h', nx', k1, k2, k3, k4⟩
def cmdsOf (os : List Ord) (M : Nat) (kinds : List Int) : List Cmd := (os.take M).map fun o => cmdOf o kinds
theorem cmdsOf_len (os : List Ord) (M : Nat) (kinds : List Int) : (cmdsOf os M kinds).length ≤ M := by simp [cmdsOf]; omega
theorem commands_spec {f : Nat} (hf : 1000 ≤ f) (Y : YldF) {h : AHeap} {nx : Nat} {oa : Option (Nat × Nat)} (oc : Option Nat) {os : List Ord} {A0 : Nat → Prop} (rows : Rows (OrdR h nx A0) h nx A0 oa 6 os) {ka : Option (Nat × Nat)} (kc : Option Nat) {kinds : List Int} (sk : Sl h nx ka kinds.length 1 (ints .i64 kinds)) (hk : 1 ≤ kinds.length ∧ kinds.length ≤ 1000) (M : Nat) (hM : M ≤ 100) :
    ∃ a c h' nx', callP Try.prog keepT f Y 7 [.slice oa os.length oc, .int .i64 (M : Int), .slice ka kinds.length kc] h nx = some (.slice a (cmdsOf os M kinds).length c, h', nx') ∧ Ext h nx h' nx' ∧ OwnRows (CmdR h' nx' (ownOf a)) h' nx' a 8 (cmdsOf os M kinds) ∧ ∀ j, ownOf a j → nx ≤ j := by
  obtain ⟨f, rfl⟩ : ∃ m, f = m + 1 := ⟨f - 1, by omega⟩
  rw [F7_eq]
  obtain ⟨a', ac', h', nx', k1, k2, k3, k4⟩ := commands_loop (f := f) (lf := f) (by omega) Y oc rows kc sk hk M hM (min os.length M) f 0 h (nx + 3) none none [] (by omega) (by omega) ((Ext.refl h nx).le (by omega)) (OwnRows.nil _ _ _ _) (fun j ⟨o, e⟩ => (by cases e)) rfl
  rw [List.nil_append, List.drop_zero] at k1 k3
  exact ⟨a', ac', h', nx', k1, k2, k3, k4⟩
theorem objName_size (n : Int) : (objName n).size ≤ 2 := by
  obtain ⟨b1, b2⟩ := pickL_bounds n 5 (by decide)
  unfold objName
  obtain ⟨k, hk⟩ : ∃ k, k = (pickL n 5).toNat := ⟨_, rfl⟩
  rw [← hk]
  have : k < 5 := by omega
  match k, this with
  | 0, _ => decide
  | 1, _ => decide
  | 2, _ => decide
  | 3, _ => decide
  | 4, _ => decide
theorem snpName_size (n : Int) : (snpName n).size ≤ 2 := by
  obtain ⟨b1, b2⟩ := pickL_bounds n 4 (by decide)
  unfold snpName
  obtain ⟨k, hk⟩ : ∃ k, k = (pickL n 4).toNat := ⟨_, rfl⟩
  rw [← hk]
  have : k < 4 := by omega
  match k, this with
  | 0, _ => decide
  | 1, _ => decide
  | 2, _ => decide
  | 3, _ => decide
theorem cmdsOf_small (os : List Ord) (M : Nat) (kinds : List Int) : Small (cmdsOf os M kinds) := fun c hc => by
  obtain ⟨o, _, rfl⟩ := List.mem_map.1 hc
  have h1 := objName_size o.name
  have h2 := snpName_size o.other
  exact ⟨by show (objName o.name).size ≤ 1000; omega, by show (snpName o.other).size ≤ 1000; omega⟩
end Go.Proofs.Ytncmdbpoceilgaa.T
