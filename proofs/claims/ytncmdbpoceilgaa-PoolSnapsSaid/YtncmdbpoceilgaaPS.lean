/- Pools: Commands, whose data avoid what is older. -/
import Derived.Test.YtncmdbpoceilgaaPR
set_option linter.unusedVariables false
set_option linter.unusedSimpArgs false
namespace Go.Proofs.Ytncmdbpoceilgaa.T
open Go Go.RowKit Go.Proofs
set_option maxRecDepth 10000

theorem push_cmd2 {h h2 : AHeap} {nx n2 m id id2 n0 : Nat} {a : Option (Nat × Nat)} {outs : List Cmd} (w : OwnRows (CmdR h nx fun j => ownOf a j ∨ Old n0 j) h nx a 8 outs) (x : Ext h nx h2 n2) (ac : Option Nat) {c : Cmd} {row : List AV} (cr : CmdR h2 n2 (fun j => (ownOf a j ∨ j = id ∨ j = id2) ∨ Old n0 j) c row)
    (h1 : nx ≤ id) (h12 : id < id2) (h3 : id2 < n2) (hn : n2 ≤ m) (hl : outs.length ≤ 1000) :
    ∃ e, srcS (h2.put id (some ⟨row, 8, true⟩)) (some (id, 0)) 1 8 = some (1, row, [id]) ∧ appD (h2.put id (some ⟨row, 8, true⟩)) a outs.length ac 8 96 id2 (1, row, [id]) = some e ∧ e.n = (outs ++ [c]).length ∧ (∀ j, ownOf e.a j → j = id2) ∧
      OwnRows (CmdR ((h2.put id (some ⟨row, 8, true⟩)).puts e.sets) m fun j => ownOf e.a j ∨ Old n0 j) ((h2.put id (some ⟨row, 8, true⟩)).puts e.sets) m e.a 8 (outs ++ [c]) ∧ Frm (fun j => ownOf a j ∨ j = id ∨ j = id2) h2 n2 ((h2.put id (some ⟨row, 8, true⟩)).puts e.sets) m := by
  have w1 : OwnRows (CmdR h2 n2 fun j => (ownOf a j ∨ j = id ∨ j = id2) ∨ Old n0 j) h2 id a 8 outs := by
    have f3 : Frm (fun _ => False) h nx h2 id := ⟨by omega, fun i hi _ => x.2 i hi⟩
    refine w.go f3 (fun _ _ q => q) fun t r q => q.go (x.fr fun _ => False) (fun _ _ q => q.elim) fun j hj hb => ?_
    rcases hb with (hb | hb | hb) | hb
    · exact .inl hb
    · omega
    · omega
    · exact .inr hb
  obtain ⟨e, a1, a2, a3, a4, a5, a6, a7, a8⟩ := w1.push ac (bytes := 96) (id := id) (id2 := id2) (x := c) (r := row) cr.len cr (growOk_of (by omega) (by omega)) (Nat.le_refl _) h12
  have hown : ∀ j, ownOf e.a j → j = id2 := fun j ⟨oo, hj⟩ => by rw [a3] at hj; exact (Prod.mk.inj (Option.some.inj hj)).1.symm
  have fX : Frm (fun j => ownOf a j ∨ j = id ∨ j = id2) h2 n2 ((h2.put id (some ⟨row, 8, true⟩)).puts e.sets) m := ⟨hn, fun j hj hb => by
    rw [puts_get _ _ (fun hm => hb (by rcases a8 j hm with h | h; exact .inl h; exact .inr (.inr h))), put_ne (fun h => hb (.inr (.inl h)))]⟩
  refine ⟨e, a1, a2, by rw [a4]; simp, hown, ?_, fX⟩
  have f5 : Frm (fun _ => False) ((h2.put id (some ⟨row, 8, true⟩)).puts e.sets) (id2 + 1) ((h2.put id (some ⟨row, 8, true⟩)).puts e.sets) m := ⟨by omega, fun _ _ _ => rfl⟩
  exact a5.go f5 (fun _ _ q => q) fun t r q => q.go fX (fun _ _ hj => .inl hj) fun j _ hj => hj.elim (fun hj => .inl (.inr (.inr (hown j hj)))) .inr

theorem commands_loop2 {f lf : Nat} (hf : 10 ≤ f) (Y : YldF) {h0 : AHeap} {n0 : Nat} {oa : Option (Nat × Nat)} (oc : Option Nat) {os : List Ord} {A0 : Nat → Prop} (rows : Rows (OrdR h0 n0 A0) h0 n0 A0 oa 6 os) {ka : Option (Nat × Nat)} (kc : Option Nat) {kinds : List Int} (sk : Sl h0 n0 ka kinds.length 1 (ints .i64 kinds)) (hk : 1 ≤ kinds.length ∧ kinds.length ≤ 1000) (M : Nat) (hM : M ≤ 100) :
    ∀ (d n1 i : Nat) (h : AHeap) (nx : Nat) (a : Option (Nat × Nat)) (ac : Option Nat) (outs : List Cmd), min os.length M = i + d → d < n1 → Ext h0 n0 h nx → OwnRows (CmdR h nx fun j => ownOf a j ∨ Old n0 j) h nx a 8 outs → (∀ j, ownOf a j → n0 ≤ j) → outs.length = i →
      ∃ a' ac' h' nx', F7_L1 (callP Try.prog keepT f) Y lf n1 oa os.length oc (M : Int) ka kinds.length kc a outs.length ac (i : Int) h nx = some (.slice a' (outs ++ ((os.take M).drop i).map fun o => cmdOf o kinds).length ac', h', nx') ∧
        Ext h0 n0 h' nx' ∧ OwnRows (CmdR h' nx' fun j => ownOf a' j ∨ Old n0 j) h' nx' a' 8 (outs ++ ((os.take M).drop i).map fun o => cmdOf o kinds) ∧ ∀ j, ownOf a' j → n0 ≤ j
  | 0, n1 + 1, i, h, nx, a, ac, outs, hd, _, x, w, hown, hl => by
    rw [show (os.take M).drop i = [] from List.drop_eq_nil_of_le (by simp; omega), List.map_nil, List.append_nil, F7_L1_eq]
    have fin : ∃ a' ac' h' nx', some (AV.slice a outs.length ac, h, nx + 11) = some (.slice a' outs.length ac', h', nx') ∧ Ext h0 n0 h' nx' ∧ OwnRows (CmdR h' nx' fun j => ownOf a' j ∨ Old n0 j) h' nx' a' 8 outs ∧ ∀ j, ownOf a' j → n0 ≤ j :=
      ⟨a, ac, h, nx + 11, rfl, x.le (by omega), w.go (D := fun _ => False) ⟨by omega, fun _ _ _ => rfl⟩ (fun _ _ q => q) fun t r q => q.go (D := fun _ => False) ⟨by omega, fun _ _ _ => rfl⟩ (fun _ _ q => q.elim) fun _ _ q => q, hown⟩
    by_cases c : i < os.length
    · rw [if_pos (by simp; omega), if_neg (by simp; omega)]; exact fin
    · rw [if_neg (by simp; omega)]; exact fin
  | d + 1, n1 + 1, i, h, nx, a, ac, outs, hd, hn1, x, w, hown, hl => by
    have hi : i < os.length := by omega
    have hi2 : i < (os.take M).length := by simp; omega
    have hdrop : (os.take M).drop i = (os.take M)[i] :: (os.take M).drop (i + 1) := List.drop_eq_getElem_cons hi2
    have hget : os[i]? = some os[i] := List.getElem?_eq_getElem hi
    rw [hdrop, List.getElem_take]
    generalize os[i] = o at hget
    have rows1 : Rows (OrdR h nx fun _ => False) h nx (fun _ => False) oa 6 os := rows.go (x.fr fun _ => False) (fun _ _ q => q.elim) (fun _ _ q => q.elim) fun _ _ r => r.go (x.fr fun _ => False) (fun _ _ q => q.elim) (fun _ _ q => q.elim)
    obtain ⟨r, ⟨da, dc, rfl, sd, _⟩, _, hread, _⟩ := rows1.read (R := AV × AHeap × Nat) hget
    rw [F7_L1_eq, if_pos (by simp; omega), if_pos (by simp; omega), F7_J2_eq]
    dsimp only
    rw [hread]
    have e0 : Ext h nx h (nx + 9 + 10) := (Ext.refl h nx).le (by omega)
    obtain ⟨row, h2, n2, g1, g2, g3⟩ := commandOf_spec (f := f) hf Y o dc (sd.ext e0) kc ((sk.ext x).ext e0) hk
    unfold ordV
    unfold ordV at g1
    simp only [mst_, mst5_]
    rw [g1]
    have hn2 : nx + 9 + 10 ≤ n2 := g2.1
    have hx0 := x.1
    have x2 : Ext h nx h2 n2 := ⟨by omega, fun j hj => g2.2 j (by omega)⟩
    have hlow : ∀ j, ownOf a j → j < nx := fun j hj => w.low hj
    have cr : CmdR h2 n2 (fun j => (ownOf a j ∨ j = nx + 9 + 7 ∨ j = nx + 9 + 8) ∨ Old n0 j) (cmdOf o kinds) row := g3.go (Frm.refl (fun _ => False) h2 n2) (fun _ _ q => q.elim) fun j _ hj => by
      unfold Old at hj ⊢
      rcases hj with (hj | hj | hj) | hj
      · have := hlow j hj; omega
      · omega
      · omega
      · omega
    obtain ⟨e, a1, a2, a3, a4, a5, a6⟩ := push_cmd2 (m := n2 + 3) w x2 ac cr (id := nx + 9 + 7) (id2 := nx + 9 + 8) (by omega) (by omega) (by omega) (by omega) (by omega)
    obtain ⟨x5, x6, ca, cc, hrow, _⟩ := cr
    subst hrow
    unfold cmdV at a1 a2 a5 a6 ⊢
    simp only [mst_, mst5_]
    rw [a1]
    simp only [mst_, mst5_]
    rw [a2]
    simp only [mst_, mst5_]
    rw [wsucc (by omega), a3]
    obtain ⟨a', ac', h', nx', k1, k2, k3, k4⟩ := commands_loop2 (lf := lf) hf Y oc rows kc sk hk M hM d n1 (i + 1) _ (n2 + 3) e.a e.c (outs ++ [cmdOf o kinds]) (by omega) (by omega)
      ⟨by have := x.1; omega, fun j hj => by
        have := x.1
        rw [a6.2 j (by omega) (fun hb => by rcases hb with hb | hb | hb; have := hown j hb; omega; omega; omega), x2.2 j (by omega)]
        exact x.2 j hj⟩ a5 (fun j hj => by have := a4 j hj; have := x.1; omega) (by simp; omega)
    rw [show outs ++ List.map (fun o => cmdOf o kinds) (o :: (os.take M).drop (i + 1)) = (outs ++ [cmdOf o kinds]) ++ List.map (fun o => cmdOf o kinds) ((os.take M).drop (i + 1)) from by simp]
    exact ⟨a', ac', h', nx', k1, k2, k3, k4⟩
theorem commands_spec2 {f : Nat} (hf : 1000 ≤ f) (Y : YldF) {h : AHeap} {nx : Nat} {oa : Option (Nat × Nat)} (oc : Option Nat) {os : List Ord} {A0 : Nat → Prop} (rows : Rows (OrdR h nx A0) h nx A0 oa 6 os) {ka : Option (Nat × Nat)} (kc : Option Nat) {kinds : List Int} (sk : Sl h nx ka kinds.length 1 (ints .i64 kinds)) (hk : 1 ≤ kinds.length ∧ kinds.length ≤ 1000) (M : Nat) (hM : M ≤ 100) :
    ∃ a c h' nx', callP Try.prog keepT f Y 7 [.slice oa os.length oc, .int .i64 (M : Int), .slice ka kinds.length kc] h nx = some (.slice a (cmdsOf os M kinds).length c, h', nx') ∧ Ext h nx h' nx' ∧ OwnRows (CmdR h' nx' fun j => ownOf a j ∨ Old nx j) h' nx' a 8 (cmdsOf os M kinds) ∧ ∀ j, ownOf a j → nx ≤ j := by
  obtain ⟨f, rfl⟩ : ∃ m, f = m + 1 := ⟨f - 1, by omega⟩
  rw [F7_eq]
  have x0 : Ext h nx h (nx + 3) := (Ext.refl h nx).le (by omega)
  obtain ⟨a', ac', h', nx', k1, k2, k3, k4⟩ := commands_loop2 (f := f) (lf := f) (by omega) Y oc rows kc sk hk M hM (min os.length M) f 0 h (nx + 3) none none [] (by omega) (by omega) x0 (OwnRows.nil _ _ _ _) (fun j ⟨o, e⟩ => (by cases e)) rfl
  rw [List.nil_append, List.drop_zero] at k1 k3
  exact ⟨a', ac', h', nx', k1, k2, k3, k4⟩

/-- Rows of commands, more of them appended. -/
theorem app_cmds {h : AHeap} {m id : Nat} {a : Option (Nat × Nat)} {cs l2 : List Cmd} {rows2 : List (List AV)} {A : Nat → Prop} (w : OwnRows (CmdR h m A) h m a 8 cs) (hA : ∀ j, ownOf a j ∨ j = id → A j) (q2 : All2 (CmdR h m A) l2 rows2) (hid : ¬ ownOf a id) (him : id < m) (c : Option Nat) (rd : List Nat) (hl : cs.length + l2.length ≤ 1000) :
    ∃ e, appD h a cs.length c 8 96 id (l2.length, rows2.flatten, rd) = some e ∧ e.n = (cs ++ l2).length ∧ OwnRows (CmdR (h.puts e.sets) m A) (h.puts e.sets) m e.a 8 (cs ++ l2) ∧ (∀ j, ownOf e.a j → ownOf a j ∨ j = id) ∧ Frm (fun j => ownOf a j ∨ j = id) h m (h.puts e.sets) m := by
  by_cases h0 : l2 = []
  · subst h0
    refine ⟨⟨a, cs.length, c, [], rd⟩, ?_, ?_, ?_, fun j hj => .inl hj, ?_⟩
    · unfold appD; rw [if_pos (by rfl)]
    · simp
    · rw [List.append_nil]; exact w
    · exact Frm.refl _ _ _
  · have len2 : ∀ r ∈ rows2, r.length = 8 := by
      clear w
      induction l2 generalizing rows2 with
      | nil => intro r hr; have : rows2 = [] := by simpa [All2] using q2
               subst this; cases hr
      | cons c l2 ih =>
        obtain ⟨r0, rs, rfl, hr0, hrs⟩ := q2
        intro r hr
        rcases List.mem_cons.1 hr with rfl | hr
        · exact hr0.len
        · by_cases hn : l2 = []
          · subst hn
            have : rs = [] := by simpa [All2] using hrs
            subst this; cases hr
          · exact ih hrs (by simp at hl; omega) hn r hr
    obtain ⟨e, f1, f2, f3, f4, f5⟩ := w.many' (m := m) c (bytes := 96) (id := id) (rd := rd) q2 len2 h0 (growOk_of (by omega) (by omega)) hid (Nat.le_refl _) him
    have ff : Frm (fun j => ownOf a j ∨ j = id) h m (h.puts e.sets) m := ⟨Nat.le_refl _, fun i hi hn => puts_get _ _ fun hm => hn (f4 i hm)⟩
    exact ⟨e, f1, f2, f3.go (Frm.refl (fun _ => False) _ _) (fun _ _ q => q) fun _ _ q => q.go ff (fun j _ hj => hA j hj) fun _ _ q => q, f5, ff⟩
theorem src_rows {h : AHeap} {b k : Nat} {r : List (List AV)} (hb : h b = some ⟨r.flatten, 8, true⟩) (hl : r.flatten.length = k * 8) (hk : k ≠ 0) : srcS h (some (b, 0)) k 8 = some (k, r.flatten, [b]) := by
  unfold srcS
  simp only
  rw [if_neg hk, hb, some_bind, if_pos (by simp [hl]), List.drop_zero, List.take_of_length_le (by rw [hl]; omega)]
theorem nil_cmd (h : AHeap) (nx : Nat) (A : Nat → Prop) {c : Cmd} (hc : c.data = []) : CmdR h nx A c (cmdV c 0 0 none none) := ⟨0, 0, none, none, rfl, by rw [hc]; exact ⟨rfl, fun j hj => by simp at hj⟩, by rw [hc]; exact Av.none⟩
theorem nil_cmds (h : AHeap) (nx : Nat) (A : Nat → Prop) : ∀ {l : List Cmd}, (∀ c ∈ l, c.data = []) → All2 (CmdR h nx A) l (l.map fun c => cmdV c 0 0 none none)
  | [], _ => rfl
  | c :: l, hc => ⟨_, _, rfl, nil_cmd h nx A (hc c List.mem_cons_self), nil_cmds h nx A fun c h => hc c (List.mem_cons_of_mem _ h)⟩
theorem cmdsOf_other (os : List Ord) (M : Nat) (kinds : List Int) : ∀ c ∈ cmdsOf os M kinds, c.other ∈ snpN := fun c hc => by
  obtain ⟨o, _, rfl⟩ := List.mem_map.1 hc
  show snpName o.other ∈ snpN
  obtain ⟨b1, b2⟩ := pickL_bounds o.other 4 (by decide)
  unfold snpName
  obtain ⟨k, hk⟩ : ∃ k, k = (pickL o.other 4).toNat := ⟨_, rfl⟩
  rw [← hk]
  have : k < 4 := by omega
  match k, this with
  | 0, _ => simp [snpN]
  | 1, _ => simp [snpN]
  | 2, _ => simp [snpN]
  | 3, _ => simp [snpN]
theorem end_sn : ∀ {l : List Cmd} {s : Pl}, SnOk s → (∀ c ∈ l, c.other ∈ snpN) → SnOk (endP s l)
  | [], _, w, _ => w
  | c :: l, _, w, h => end_sn (l := l) (step_sn w (.inl (h c List.mem_cons_self))) fun c hc => h c (List.mem_cons_of_mem _ hc)
theorem s0_sn : SnOk s0 := ⟨by simp [s0], by simp [s0]⟩
end Go.Proofs.Ytncmdbpoceilgaa.T
