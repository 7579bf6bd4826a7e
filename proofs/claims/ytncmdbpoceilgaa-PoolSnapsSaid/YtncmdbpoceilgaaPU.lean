/- Pools: PoolSnaps, the loop. -/
import Derived.Test.YtncmdbpoceilgaaPT
import Derived.Test.YtncmdbpoceilgaaTX
set_option linter.unusedVariables false
set_option linter.unusedSimpArgs false
namespace Go.Proofs.Ytncmdbpoceilgaa.T
open Go Go.RowKit Go.Proofs
set_option maxRecDepth 10000

def fixC (c : Cmd) : Cmd := if c.kind = 10 ∧ c.other = nS then { c with other := nT } else c
theorem fixC_not (c : Cmd) : ¬ ((fixC c).kind = 10 ∧ (fixC c).other = nS) := by
  unfold fixC
  split
  · intro h; exact absurd h.2 (by show ¬ nT = nS; decide)
  · rename_i h; exact h
theorem str_dec (s t : ByteArray) : (s.toList == t.toList) = decide (s = t) := by
  by_cases h : s = t
  · subst h; simp
  · rw [decide_eq_false h, beq_eq_false_iff_ne]
    intro e
    have e2 : s.data.toList = t.data.toList := by rw [← ByteArray.toList_eq, ← ByteArray.toList_eq, e]
    exact h (ByteArray.ext (Array.ext' e2))
theorem Rows.base {α : Type} {Q : α → List AV → Prop} {h : AHeap} {nx : Nat} {A : Nat → Prop} {a : Option (Nat × Nat)} {es : Nat} {l : List α} (w : Rows Q h nx A a es l) (hl : 0 < l.length) : ∃ p, a = some p ∧ p.1 < nx ∧ h p.1 ≠ none := by
  obtain ⟨rows, _, _, s, _⟩ := w
  obtain ⟨p, b, hp, hlt, hb, _⟩ := s.2 0 hl
  exact ⟨p, hp, hlt, by rw [hb]; simp⟩

theorem kinds_exact {f : Nat} (hf : 1 ≤ f) (Y : YldF) (h : AHeap) (nx : Nat) : callP Try.prog keepT f Y 8 [] h nx = some (.slice (some (nx + 1, 0)) 22 (some 22), h.put (nx + 1) (some ⟨ints .i64 kindsL, 1, true⟩), nx + 3) := by
  obtain ⟨f, rfl⟩ : ∃ m, f = m + 1 := ⟨f - 1, by omega⟩
  rw [F8_eq]; rfl

/-- One command more. -/
theorem snaps_step {f lf : Nat} (hf : 1000 ≤ f) {h : AHeap} {nx : Nat} {oa : Option (Nat × Nat)} (oc : Option Nat) {os : List Ord} {A0 : Nat → Prop} (rows : Rows (OrdR h nx A0) h nx A0 oa 6 os) {i : Nat} {o : Ord} (ho : os[i]? = some o) (name : ByteArray) {a : Option (Nat × Nat)} (ac : Option Nat) {outs : List Cmd} (k : Int) (n0 : Nat)
    (w : OwnRows (CmdR h nx (ownOf a)) h nx a 8 outs) (hl : outs.length ≤ 400) (hi : i ≤ 1000) :
    ∃ h' nx' a' ac', F3_J2 (callP Try.prog keepT f) Y0 lf n0 oa os.length oc name a outs.length ac k (i : Int) h nx = F3_L1 (callP Try.prog keepT f) Y0 lf n0 oa os.length oc name a' (outs ++ [fixC (cmdOf o kindsL)]).length ac' k ((i + 1 : Nat) : Int) h' nx' ∧
      Frm (ownOf a) h nx h' nx' ∧ OwnRows (CmdR h' nx' (ownOf a')) h' nx' a' 8 (outs ++ [fixC (cmdOf o kindsL)]) ∧ ∀ j, ownOf a' j → nx ≤ j := by
  have hil : i < os.length := (List.getElem?_eq_some_iff.1 ho).1
  obtain ⟨p, rfl, hp, hpn⟩ := rows.base (by omega)
  obtain ⟨r, ⟨da, dc, rfl, sd, _⟩, _, hread, _⟩ := rows.read (R := AV × AHeap × Nat) ho
  rw [F3_J2_eq]
  simp only [bind_some'] at hread
  rw [bind_some', hread]
  unfold ordV
  simp only [mst_, mst5_]
  -- the kinds
  have ek := kinds_exact (f := f) (by omega) Y0 h (nx + 8)
  obtain ⟨h1, hh1⟩ : ∃ h1, h1 = h.put (nx + 8 + 1) (some ⟨ints .i64 kindsL, 1, true⟩) := ⟨_, rfl⟩
  rw [← hh1] at ek
  have robK : ∀ ss : List (Nat × Option ABlk), (∀ q ∈ ss, q.1 ∈ [nx + 6]) → callP Try.prog keepT f Y0 8 [] (h.puts ss) (nx + 8) = some (.slice (some (nx + 8 + 1, 0)) 22 (some 22), h1.puts ss, nx + 8 + 3) := fun ss hs => by
    rw [kinds_exact (by omega), hh1, put_puts ss (fun hm => by
      obtain ⟨q, hq, e⟩ := List.mem_map.1 hm
      have := hs q hq
      simp at this; omega)]
  rw [ek]
  simp only [mst_, mst5_]
  have x1 : Ext h nx h1 (nx + 8 + 3) := by rw [hh1]; exact (Ext.refl h nx).put (by omega) (by omega)
  have b1 : h1 (nx + 8 + 1) = some ⟨ints .i64 kindsL, 1, true⟩ := by rw [hh1, put_same]
  -- the command, without the block that is made for it
  obtain ⟨h0, hh0⟩ : ∃ h0, h0 = h1.put (nx + 6) none := ⟨_, rfl⟩
  have x0 : Ext h nx h0 (nx + 8 + 3) := by rw [hh0]; exact x1.put (by omega) (by omega)
  have b0 : h0 (nx + 8 + 1) = some ⟨ints .i64 kindsL, 1, true⟩ := by rw [hh0, put_ne (by omega)]; exact b1
  have sk : Sl h0 (nx + 8 + 3) (some (nx + 8 + 1, 0)) kindsL.length 1 (ints .i64 kindsL) := ⟨by simp [ints], fun j hj => ⟨(nx + 8 + 1, 0), _, rfl, (show nx + 8 + 1 < nx + 8 + 3 by omega), b0, rfl, by simp [kindsL, ints], fun q hq => by simp [kindsL]⟩⟩
  obtain ⟨row, h2, n2, g1, g2, g3⟩ := commandOf_spec (f := f) (by omega) Y0 o dc (sd.ext x0) (some 22) sk (by decide)
  rw [hh0] at g1
  obtain ⟨r1, r2⟩ := callP_rob (id := nx + 6) Y0_fro (by omega) g1
  have r1' : callP Try.prog keepT f Y0 10 [.agg [.int .i64 o.kind, .int .i64 o.name, .int .i64 o.other, .int .i64 o.off, .int .i64 o.count, .slice da o.data.length dc], .slice (some (nx + 8 + 1, 0)) 22 (some 22)] h1 (nx + 8 + 3) = _ := r1
  obtain ⟨h2', hh2'⟩ : ∃ h2', h2' = h2.put (nx + 6) (h1 (nx + 6)) := ⟨_, rfl⟩
  rw [← hh2'] at r1' r2
  rw [r1']
  obtain ⟨x5, x6, ca, cc, rfl, sc, avc⟩ := g3
  unfold cmdV at r2 ⊢
  simp only [mst_, mst5_]
  rw [st_all (put_same _ _ _) (by simp) (by simp) (by simp [allOne, AV.one]), put_put]
  rw [ifApart_pos (by exact ⟨fun x hx hy => by simp at hx hy; omega, trivial⟩), ifKept_pos (by exact ⟨fun x hx => by simp at hx; subst hx; exact x1.2 _ (by omega), trivial⟩)]
  rw [ifRob_pos (by exact ⟨fun ss hs => robK ss hs, fun ss hs => r2 ss hs, trivial⟩)]
  have ln2 := g2.1
  obtain ⟨C, hC⟩ : ∃ C, C = cmdOf o kindsL := ⟨_, rfl⟩
  rw [← hC] at sc avc ⊢
  -- the row as it is kept, and the block
  obtain ⟨h3, hh3⟩ : ∃ h3, h3 = h2'.put (nx + 6) (some ⟨cmdV C x5 x6 ca cc, 8, true⟩) := ⟨_, rfl⟩
  have hh3' : h3 = h2.put (nx + 6) (some ⟨cmdV C x5 x6 ca cc, 8, true⟩) := by rw [hh3, hh2', put_put]
  have b3 : h3 (nx + 6) = some ⟨cmdV C x5 x6 ca cc, 8, true⟩ := by rw [hh3, put_same]
  have e3 : AHeap.put h2' (nx + 6) (some ⟨[AV.int .i64 C.kind, .str C.name, .str C.other, .int .i64 C.off, .int .i64 C.count, .int .i64 x5, .int .i64 x6, .slice ca C.data.length cc], 8, true⟩) = h3 := hh3.symm
  rw [e3]
  have low : ∀ j, ownOf a j → j < nx := fun j hj => w.low hj
  -- what is left, of the row that is there then
  have fin : ∀ (D : Cmd) (h4 : AHeap) (m : Nat), D.data = C.data → h4 = h2.put (nx + 6) (some ⟨cmdV D x5 x6 ca cc, 8, true⟩) → n2 + 8 ≤ m →
      ∃ h' nx' a' ac', F3_J4 (callP Try.prog keepT f) Y0 lf n0 (some p) os.length oc name a outs.length ac k (i : Int) (some (nx + 6, 0)) h4 m = F3_L1 (callP Try.prog keepT f) Y0 lf n0 (some p) os.length oc name a' (outs ++ [D]).length ac' k ((i + 1 : Nat) : Int) h' nx' ∧
        Frm (ownOf a) h nx h' nx' ∧ OwnRows (CmdR h' nx' (ownOf a')) h' nx' a' 8 (outs ++ [D]) ∧ ∀ j, ownOf a' j → nx ≤ j := by
    intro D h4 m hD hh4 hm
    have b4 : h4 (nx + 6) = some ⟨cmdV D x5 x6 ca cc, 8, true⟩ := by rw [hh4, put_same]
    have x4 : Ext h nx h4 (m + 4) := ⟨by omega, fun j hj => by rw [hh4, put_ne (by omega), g2.2 j (by omega)]; exact x0.2 j hj⟩
    have f4 : Frm (fun j => j = nx + 6) h2 n2 h4 (m + 4) := ⟨by omega, fun j _ hj => by rw [hh4, put_ne (fun e => hj e)]⟩
    have cr : CmdR h4 (m + 4) (fun j => ownOf a j ∨ j = m + 2 ∨ j = m + 3) D (cmdV D x5 x6 ca cc) := by
      refine ⟨x5, x6, ca, cc, rfl, by rw [hD]; exact sc.fr (avc.less fun j hj => by unfold Old; omega) f4, ?_⟩
      rw [hD]
      exact avc.go sc fun j hj q => by
        unfold Old
        rcases q with q | q | q
        · have := low j q; omega
        · omega
        · omega
    obtain ⟨e, a1, a2, a3, a4, a5, a6⟩ := push_cmd (m := m + 8) w x4 ac cr (id := m + 2) (id2 := m + 3) (by omega) (by omega) (by omega) (by omega) (by omega)
    rw [F3_J4_eq]
    simp only [mst_, mst5_]
    rw [ldr_all (n := 8) b4 rfl]
    unfold cmdV at a1 a2 a5 a6 ⊢
    simp only [mst_, mst5_]
    rw [a1]
    simp only [mst_, mst5_]
    rw [a2]
    simp only [mst_, mst5_]
    rw [wsucc (by omega), a3]
    refine ⟨_, m + 8, e.a, e.c, rfl, ⟨by omega, fun j hj hn => ?_⟩, a5, fun j hj => by have := a4 j hj; omega⟩
    rw [a6.2 j (by omega) (fun hb => by rcases hb with hb | hb | hb; exact hn hb; omega; omega)]
    exact x4.2 j hj
  rw [ld_at b3 (show _ = some (AV.int .i64 C.kind) from rfl)]
  simp only [mst_, mst5_]
  by_cases c1 : C.kind = 10
  · rw [if_pos (by rw [beq_iff_eq]; exact c1), ld_at b3 (show _ = some (AV.str C.other) from rfl)]
    simp only [mst_, mst5_]
    rw [show (ByteArray.mk #[115]) = nS from rfl, str_dec]
    by_cases c2 : C.other = nS
    · rw [if_pos (decide_eq_true c2), st_to (cs' := cmdV { C with other := nT } x5 x6 ca cc) b3 rfl (by simp [cmdV]) rfl]
      have e4 : fixC C = { C with other := nT } := by unfold fixC; rw [if_pos ⟨c1, c2⟩]
      rw [e4]
      exact fin { C with other := nT } _ _ rfl (by rw [hh3', put_put]) (by omega)
    · rw [if_neg (by rw [decide_eq_true_eq]; exact c2)]
      have e4 : fixC C = C := by unfold fixC; rw [if_neg (fun h => c2 h.2)]
      rw [e4]
      exact fin C _ _ rfl hh3' (by omega)
  · rw [if_neg (by rw [beq_iff_eq]; exact c1)]
    have e4 : fixC C = C := by unfold fixC; rw [if_neg (fun h => c1 h.1)]
    rw [e4]
    exact fin C _ _ rfl hh3' (by omega)

def moreOf (os : List Ord) : List Cmd := (os.take 40).map fun o => fixC (cmdOf o kindsL)
theorem snaps_loop {f lf : Nat} (hf : 1000 ≤ f) {h0 : AHeap} {n0 : Nat} {oa : Option (Nat × Nat)} (oc : Option Nat) {os : List Ord} {A0 : Nat → Prop} (rows : Rows (OrdR h0 n0 A0) h0 n0 A0 oa 6 os) (name : ByteArray) (k : Int) :
    ∀ (d n1 i : Nat) (h : AHeap) (nx : Nat) (a : Option (Nat × Nat)) (ac : Option Nat) (outs : List Cmd), min os.length 40 = i + d → d < n1 → Ext h0 n0 h nx → OwnRows (CmdR h nx (ownOf a)) h nx a 8 outs → (∀ j, ownOf a j → n0 ≤ j) → outs.length ≤ 50 + i →
      ∃ h' nx' a' ac', F3_L1 (callP Try.prog keepT f) Y0 lf n1 oa os.length oc name a outs.length ac k (i : Int) h nx = F3_J3 (callP Try.prog keepT f) Y0 lf name a' (outs ++ (moreOf os).drop i).length ac' k h' nx' ∧
        Ext h0 n0 h' nx' ∧ OwnRows (CmdR h' nx' (ownOf a')) h' nx' a' 8 (outs ++ (moreOf os).drop i) ∧ ∀ j, ownOf a' j → n0 ≤ j
  | 0, n1 + 1, i, h, nx, a, ac, outs, hd, _, x, w, hown, hl => by
    rw [show (moreOf os).drop i = [] from List.drop_eq_nil_of_le (by simp [moreOf]; omega), List.append_nil, F3_L1_eq]
    have fin : ∃ h' nx' a' ac', F3_J3 (callP Try.prog keepT f) Y0 lf name a outs.length ac k h (nx + 8) = F3_J3 (callP Try.prog keepT f) Y0 lf name a' outs.length ac' k h' nx' ∧ Ext h0 n0 h' nx' ∧ OwnRows (CmdR h' nx' (ownOf a')) h' nx' a' 8 outs ∧ ∀ j, ownOf a' j → n0 ≤ j :=
      ⟨h, nx + 8, a, ac, rfl, x.le (by omega), w.go (D := fun _ => False) ⟨by omega, fun _ _ _ => rfl⟩ (fun _ _ q => q) fun t r q => q.go (D := fun _ => False) ⟨by omega, fun _ _ _ => rfl⟩ (fun _ _ q => q.elim) fun _ _ q => q, hown⟩
    by_cases c : i < os.length
    · rw [if_pos (by simp; omega), if_neg (by simp; omega)]; exact fin
    · rw [if_neg (by simp; omega)]; exact fin
  | d + 1, n1 + 1, i, h, nx, a, ac, outs, hd, hn1, x, w, hown, hl => by
    have hi : i < os.length := by omega
    have hget : os[i]? = some os[i] := List.getElem?_eq_getElem hi
    have hi2 : i < (moreOf os).length := by simp [moreOf]; omega
    have hdrop : (moreOf os).drop i = fixC (cmdOf os[i] kindsL) :: (moreOf os).drop (i + 1) := by
      rw [List.drop_eq_getElem_cons hi2]
      simp [moreOf]
    rw [hdrop]
    generalize os[i] = o at hget
    have rows1 : Rows (OrdR h nx fun _ => False) h nx (fun _ => False) oa 6 os := rows.go (x.fr fun _ => False) (fun _ _ q => q.elim) (fun _ _ q => q.elim) fun _ _ r => r.go (x.fr fun _ => False) (fun _ _ q => q.elim) (fun _ _ q => q.elim)
    have rows2 : Rows (OrdR h (nx + 8) fun _ => False) h (nx + 8) (fun _ => False) oa 6 os := rows1.go (D := fun _ => False) ⟨by omega, fun _ _ _ => rfl⟩ (fun _ _ q => q) (fun _ _ q => q) fun _ _ r => r.go (D := fun _ => False) ⟨by omega, fun _ _ _ => rfl⟩ (fun _ _ q => q.elim) (fun _ _ q => q.elim)
    have w2 : OwnRows (CmdR h (nx + 8) (ownOf a)) h (nx + 8) a 8 outs := w.go (D := fun _ => False) ⟨by omega, fun _ _ _ => rfl⟩ (fun _ _ q => q) fun _ _ r => r.go (D := fun _ => False) ⟨by omega, fun _ _ _ => rfl⟩ (fun _ _ q => q.elim) (fun j hj q => q)
    rw [F3_L1_eq, if_pos (by simp; omega), if_pos (by simp; omega)]
    obtain ⟨h1, nx1, a1, ac1, e1, f1, w1, o1⟩ := snaps_step (lf := lf) hf oc rows2 hget name ac k n1 w2 (by omega) (by omega)
    rw [e1]
    have x1 : Ext h0 n0 h1 nx1 := ⟨by have := x.1; have := f1.1; omega, fun j hj => by have := x.1; rw [f1.2 j (by omega) (fun q => by have := hown j q; omega)]; exact x.2 j hj⟩
    obtain ⟨h', nx', a', ac', e2, x2, w3, o2⟩ := snaps_loop (lf := lf) hf oc rows name k d n1 (i + 1) h1 nx1 a1 ac1 (outs ++ [fixC (cmdOf o kindsL)]) (by omega) (by omega) x1 w1 (fun j hj => by have := o1 j hj; have := x.1; omega) (by simp; omega)
    rw [show outs ++ fixC (cmdOf o kindsL) :: (moreOf os).drop (i + 1) = (outs ++ [fixC (cmdOf o kindsL)]) ++ (moreOf os).drop (i + 1) from by simp]
    exact ⟨h', nx', a', ac', e2, x2, w3, o2⟩

theorem fixC_small {c : Cmd} (h : c.name.size ≤ 1000 ∧ c.other.size ≤ 1000) : (fixC c).name.size ≤ 1000 ∧ (fixC c).other.size ≤ 1000 := by
  unfold fixC
  split
  · exact ⟨h.1, show nT.size ≤ 1000 by decide⟩
  · exact h
theorem moreOf_small (os : List Ord) : Small (moreOf os) := fun c hc => by
  obtain ⟨o, ho, rfl⟩ := List.mem_map.1 hc
  exact fixC_small (cmdsOf_small os 40 kindsL _ (List.mem_map.2 ⟨o, ho, rfl⟩))
theorem moreOf_not (os : List Ord) : ∀ c ∈ moreOf os, ¬ (c.kind = 10 ∧ c.other = nS) := fun c hc => by
  obtain ⟨o, _, rfl⟩ := List.mem_map.1 hc
  exact fixC_not _
theorem moreOf_len (os : List Ord) : (moreOf os).length ≤ 40 := by simp [moreOf]; omega

theorem PoolSnaps_run (h : AHeap) (nx : Nat) (a : Option (Nat × Nat)) (cells : List (List AV)) (_ : cells.length * 64 ≤ 140737488351232) (each : ∀ c ∈ cells, Ty h nx OrdSh c) (sl : Sl h nx a cells.length OrdSh.n cells.flatten)
    (b : Option (Nat × Nat)) (cells2 : List (List AV)) (_ : cells2.length * 64 ≤ 140737488351232) (each2 : ∀ c ∈ cells2, Ty h nx OrdSh c) (sl2 : Sl h nx b cells2.length OrdSh.n cells2.flatten) (x : Int) (_ : (Lit.int .i64 x).wf = true) :
    ∃ f h' nx', callP Try.prog keepT f Y0 3 [.slice a cells.length none, .slice b cells2.length none, .int .i64 x] h nx = some (.bool true, h', nx') := by
  obtain ⟨os, hol, rows⟩ := ord_rows each sl
  obtain ⟨os2, hol2, rows2⟩ := ord_rows each2 sl2
  rw [← hol, ← hol2]
  refine ⟨9001, ?_⟩
  rw [F3_eq]
  obtain ⟨h1, n1, e1, x1, b1, l1⟩ := kinds_spec (f := 9000) (by omega) Y0 h (nx + 5)
  rw [e1]
  simp only [mst_, mst5_]
  have lx1 := x1.1
  have x1' : Ext h nx h1 n1 := ⟨by omega, fun i hi => x1.2 i (by omega)⟩
  have goO : ∀ {h' : AHeap} {n' : Nat} {a : Option (Nat × Nat)} {os : List Ord}, Rows (OrdR h nx fun _ => False) h nx (fun _ => False) a 6 os → Ext h nx h' n' → Rows (OrdR h' n' fun _ => False) h' n' (fun _ => False) a 6 os := fun r x => r.go (x.fr fun _ => False) (fun _ _ q => q.elim) (fun _ _ q => q) fun _ _ r => r.go (x.fr fun _ => False) (fun _ _ q => q.elim) (fun _ _ q => q)
  have sk : Sl h1 n1 (some (nx + 5 + 1, 0)) kindsL.length 1 (ints .i64 kindsL) := ⟨by simp [ints], fun j hj => ⟨(nx + 5 + 1, 0), _, rfl, l1, b1, rfl, by simp [kindsL, ints], fun q hq => by simp [kindsL]⟩⟩
  obtain ⟨a2, c2, h2, n2, e2, x2, w2, o2⟩ := commands_spec2 (f := 9000) (by omega) Y0 none (goO rows x1') (some 22) sk (by decide) 40 (by decide)
  have e2' : callP Try.prog keepT 9000 Y0 7 [.slice a os.length none, .int .i64 40, .slice (some (nx + 5 + 1, 0)) 22 (some 22)] h1 n1 = some (.slice a2 (cmdsOf os 40 kindsL).length c2, h2, n2) := e2
  rw [e2']
  simp only [mst_, mst5_]
  have hcl : (cmdsOf os 40 kindsL).length ≤ 40 := cmdsOf_len _ _ _
  have hsm : Small (cmdsOf os 40 kindsL) := cmdsOf_small _ _ _
  have hot : ∀ c ∈ cmdsOf os 40 kindsL, c.other ∈ snpN := cmdsOf_other _ _ _
  generalize cmdsOf os 40 kindsL = cs at *
  rw [objectName_spec (by omega)]
  simp only [mst_, mst5_]
  have l2 := x2.1
  obtain ⟨h3, hh3⟩ : ∃ h3, h3 = h2.put (n2 + 3 + 1) (some ⟨objN.map AV.str, 1, true⟩) := ⟨_, rfl⟩
  obtain ⟨n3, hn3⟩ : ∃ n3, n3 = n2 + 3 + 7 + pickK x 5 := ⟨_, rfl⟩
  have l3 : n2 + 10 ≤ n3 := by omega
  have x3 : Ext h2 n2 h3 n3 := by rw [hh3]; exact (Ext.refl h2 n2).put (by omega) (by omega)
  rw [← hh3, ← hn3]
  clear hh3 hn3
  have low2 : ∀ j, ownOf a2 j → j < n2 := fun j hj => w2.low hj
  -- the copy
  have hxx3 : Ext h nx h3 n3 := ⟨by omega, fun i hi => (x3.2 i (by omega)).trans ((x2.2 i (by omega)).trans (x1'.2 i hi))⟩
  have w3 : OwnRows (CmdR h3 (n3 + 15) fun j => n3 ≤ j) h3 (n3 + 15) a2 8 cs := w2.go ((x3.fr fun _ => False).le (by omega)) (fun _ _ q => q) fun _ _ r => r.go ((x3.fr fun _ => False).le (by omega)) (fun _ _ q => q.elim) fun j hj q => by omega
  obtain ⟨rs, q3, len3, s3, _⟩ := w3.rows (A := fun _ => False) fun _ _ q => q
  have s3' : Sl h3 n3 a2 cs.length 8 rs.flatten := ⟨s3.1, fun j hj => by
    obtain ⟨p, b, hp, _, hb, r⟩ := s3.2 j hj
    refine ⟨p, b, hp, ?_, hb, r⟩
    have := low2 p.1 ⟨p.2, hp⟩
    omega⟩
  obtain ⟨rd3, src3⟩ := s3'.src'
  rw [src3]
  simp only [mst_, mst5_]
  obtain ⟨e4, f1, f2, f3, f4, f5⟩ := app_cmds (id := n3 + 1) (A := fun j => n3 ≤ j) (OwnRows.nil (CmdR h3 (n3 + 15) fun j => n3 ≤ j) h3 (n3 + 15) 8) (fun j hj => by rcases hj with ⟨o, hj⟩ | hj; cases hj; omega) q3 (fun ⟨o, hj⟩ => by cases hj) (by omega) none rd3 (by simp; omega)
  have f1' : appD h3 none 0 none 8 96 (n3 + 1) (cs.length, rs.flatten, rd3) = some e4 := f1
  rw [f1']
  simp only [mst_, mst5_]
  rw [List.nil_append] at f2 f3
  -- four commands more
  obtain ⟨four, h4c⟩ : ∃ four : List Cmd, four = [cU nS, cU nT, cS, cF (objName x)] := ⟨_, rfl⟩
  have len4 : four.length = 4 := by rw [h4c]; rfl
  obtain ⟨h4, hh4⟩ : ∃ h4, h4 = (h3.puts e4.sets).put (n3 + 7) (some ⟨(four.map fun c => cmdV c 0 0 none none).flatten, 8, true⟩) := ⟨_, rfl⟩
  have hh4' : h4 = (h3.puts e4.sets).put (n3 + 7) (some ⟨[(.int .i64 10), (.str (ByteArray.mk #[])), (.str (ByteArray.mk #[115])), (.int .i64 0), (.int .i64 0), (.int .i64 0), (.int .i64 0), (.slice none 0 none), (.int .i64 10), (.str (ByteArray.mk #[])), (.str (ByteArray.mk #[116])), (.int .i64 0), (.int .i64 0), (.int .i64 0), (.int .i64 0), (.slice none 0 none), (.int .i64 7), (.str (ByteArray.mk #[])), (.str (ByteArray.mk #[115])), (.int .i64 0), (.int .i64 0), (.int .i64 0), (.int .i64 0), (.slice none 0 none), (.int .i64 3), (.str (objName x)), (.str (ByteArray.mk #[])), (.int .i64 0), (.int .i64 2000), (.int .i64 0), (.int .i64 0), (.slice none 0 none)], 8, true⟩) := by rw [hh4, h4c]; rfl
  rw [← hh4']
  have b4 : h4 (n3 + 7) = some ⟨(four.map fun c => cmdV c 0 0 none none).flatten, 8, true⟩ := by rw [hh4, put_same]
  have y4 : Frm (fun j => j = n3 + 7) (h3.puts e4.sets) (n3 + 15) h4 (n3 + 15) := by rw [hh4]; exact (Frm.refl (fun j => j = n3 + 7) _ _).put (.inl rfl) (Nat.le_refl _)
  clear hh4 hh4'
  have s4 : srcS h4 (some (n3 + 7, 0)) 4 8 = _ := src_rows b4 (by rw [h4c]; rfl) (by decide)
  rw [s4]
  simp only [mst_, mst5_]
  have own4 : ∀ j, ownOf e4.a j → j = n3 + 1 := fun j hj => by
    rcases f4 j hj with ⟨o, q⟩ | q
    · cases q
    · exact q
  have w4 : OwnRows (CmdR h4 (n3 + 15) fun j => n3 ≤ j) h4 (n3 + 15) e4.a 8 cs := f3.go y4 (fun j hj q => by have := own4 j hj; omega) fun _ _ r => r.go y4 (fun j _ q => by omega) fun _ _ q => q
  obtain ⟨e5, g1, g2, g3, g4, g5⟩ := app_cmds (id := n3 + 8) w4 (fun j hj => by rcases hj with hj | rfl; have := own4 j hj; omega; omega) (nil_cmds h4 (n3 + 15) (fun j => n3 ≤ j) (l := four) (by rw [h4c]; intro c hc; simp only [List.mem_cons, List.not_mem_nil, or_false] at hc; rcases hc with rfl | rfl | rfl | rfl <;> rfl)) (fun q => by have := own4 _ q; omega) (by omega) e4.c [n3 + 7] (by omega)
  rw [len4] at g1
  rw [f2, g1]
  simp only [mst_, mst5_]
  have own5 : ∀ j, ownOf e5.a j → n3 ≤ j := fun j hj => by
    rcases g4 j hj with q | q
    · have := own4 j q; omega
    · omega
  have hxx5 : Ext h nx (h4.puts e5.sets) (n3 + 15) := ⟨by omega, fun i hi => by
    rw [g5.2 i (by omega) (fun q => by rcases q with q | q; have := own4 _ q; omega; omega), y4.2 i (by omega) (by omega), f5.2 i (by omega) (fun q => by rcases q with ⟨o, q⟩ | q; cases q; omega)]
    exact hxx3.2 i hi⟩
  have w5 : OwnRows (CmdR (h4.puts e5.sets) (n3 + 15) (ownOf e5.a)) (h4.puts e5.sets) (n3 + 15) e5.a 8 (cs ++ four) := g3.go (Frm.refl (fun _ => False) _ _) (fun _ _ q => q) fun _ _ r => r.go (Frm.refl (fun _ => False) _ _) (fun _ _ q => q.elim) fun j _ hj => own5 j hj
  have hk : wrapA .i64 (((e5.n : Nat) : Int) - 1) = ((cs.length + 3 : Nat) : Int) := by rw [g2, List.length_append, len4, wA (by omega) (by omega)]; omega
  rw [hk, g2]
  obtain ⟨h6, n6, a6, c6, e6, x6, w6, o6⟩ := snaps_loop (f := 9000) (lf := 9000) (by omega) none rows2 (objName x) ((cs.length + 3 : Nat) : Int) (min os2.length 40) 9000 0 _ _ e5.a e5.c (cs ++ four) (by omega) (by omega) hxx5 w5 (fun j hj => by have := own5 j hj; omega) (by rw [List.length_append]; omega)
  have e6' : F3_L1 (callP Try.prog keepT 9000) Y0 9000 9000 b os2.length none (objName x) e5.a (cs ++ four).length e5.c ((cs.length + 3 : Nat) : Int) 0 (h4.puts e5.sets) (n3 + 15) = _ := e6
  rw [e6', List.drop_zero, F3_J3_eq]
  rw [List.drop_zero] at w6
  have hmn := moreOf_not os2
  have hml := moreOf_len os2
  have hms := moreOf_small os2
  generalize moreOf os2 = ms at *
  have l6 := x6.1
  -- the last one
  obtain ⟨h7, hh7⟩ : ∃ h7, h7 = h6.put (n6 + 3) (some ⟨([cK (objName x)].map fun c => cmdV c 0 0 none none).flatten, 8, true⟩) := ⟨_, rfl⟩
  have hh7' : h7 = h6.put (n6 + 3) (some ⟨[(.int .i64 8), (.str (objName x)), (.str (ByteArray.mk #[115])), (.int .i64 0), (.int .i64 2000), (.int .i64 0), (.int .i64 0), (.slice none 0 none)], 8, true⟩) := by rw [hh7]; rfl
  dsimp only
  rw [← hh7']
  have b7 : h7 (n6 + 3) = some ⟨([cK (objName x)].map fun c => cmdV c 0 0 none none).flatten, 8, true⟩ := by rw [hh7, put_same]
  have x7 : Ext h6 n6 h7 (n6 + 13) := by rw [hh7]; exact (Ext.refl h6 n6).put (by omega) (by omega)
  clear hh7 hh7'
  have s7 : srcS h7 (some (n6 + 3, 0)) 1 8 = _ := src_rows b7 rfl (by decide)
  rw [s7]
  simp only [mst_, mst5_]
  have low6 : ∀ j, ownOf a6 j → j < n6 := fun j hj => w6.low hj
  have w7 : OwnRows (CmdR h7 (n6 + 13) fun j => ownOf a6 j ∨ j = n6 + 4) h7 (n6 + 13) a6 8 (cs ++ four ++ ms) := w6.go (x7.fr fun _ => False) (fun _ _ q => q) fun _ _ r => r.go (x7.fr fun _ => False) (fun _ _ q => q.elim) fun j hj q => by
    rcases q with q | q
    · exact q
    · omega
  obtain ⟨e8, k1, k2, k3, k4, k5⟩ := app_cmds (id := n6 + 4) w7 (fun j hj => hj) (nil_cmds h7 (n6 + 13) (fun j => ownOf a6 j ∨ j = n6 + 4) (l := [cK (objName x)]) (by intro c hc; rw [List.mem_singleton.1 hc]; rfl)) (fun q => by have := low6 _ q; omega) (by omega) c6 [n6 + 3] (by simp; omega)
  have k1' : appD h7 a6 (cs ++ four ++ ms).length c6 8 96 (n6 + 4) (1, ([cK (objName x)].map fun c => cmdV c 0 0 none none).flatten, [n6 + 3]) = some e8 := k1
  rw [k1']
  simp only [mst_, mst5_]
  have rows8 : Rows (CmdR (h7.puts e8.sets) (n6 + 13) fun _ => False) (h7.puts e8.sets) (n6 + 13) (fun _ => False) e8.a 8 (cs ++ four ++ ms ++ [cK (objName x)]) := (k3.rows (A := fun _ => False) fun _ _ q => q).go (Frm.refl (fun _ => False) _ _) (fun _ _ q => q) (fun _ _ q => q) fun _ _ r => r.go (Frm.refl (fun _ => False) _ _) (fun _ _ q => q.elim) (fun _ _ q => q.elim)
  have hsm8 : Small (cs ++ four ++ ms ++ [cK (objName x)]) := fun c hc => by
    have hn := objName_size x
    simp only [List.mem_append] at hc
    rcases hc with ((hc | hc) | hc) | hc
    · exact hsm c hc
    · rw [h4c] at hc
      simp only [List.mem_cons, List.not_mem_nil, or_false] at hc
      rcases hc with rfl | rfl | rfl | rfl
      · exact ⟨by decide, by decide⟩
      · exact ⟨by decide, by decide⟩
      · exact ⟨by decide, by decide⟩
      · exact ⟨by show (objName x).size ≤ 1000; omega, (show nE.size ≤ 1000 by decide)⟩
    · exact hms c hc
    · rw [List.mem_singleton.1 hc]
      exact ⟨by show (objName x).size ≤ 1000; omega, (show nS.size ≤ 1000 by decide)⟩
  generalize h7.puts e8.sets = h8 at *
  have hT0 : playP s0 (cs ++ four ++ ms ++ [cK (objName x)]) = playP s0 cs ++ playP (endP s0 cs) ([cU nS, cU nT, cS, cF (objName x)] ++ ms ++ [cK (objName x)]) := by
    rw [← playP_append, h4c]; simp
  obtain ⟨a9, c9, h9, n9, e9, x9, w9, _⟩ := pooled_spec (n := 9000) (by omega) Y0 e8.c rows8 (by simp; omega) hsm8
  rw [k2, e9]
  simp only [mst_, mst5_]
  obtain ⟨h10, n10, e10, x10⟩ := begun_spec (n := 9000) (by omega) Y0 h9 (n9 + 27)
  rw [e10]
  simp only [mst_, mst5_]
  have l10 := x10.1
  have x910 : Ext h9 n9 h10 n10 := ⟨by omega, fun i hi => x10.2 i (by omega)⟩
  have tr : Rows (ToldR h10 n10 fun _ => False) h10 n10 (fun _ => False) a9 5 (playP s0 (cs ++ four ++ ms ++ [cK (objName x)])) := (w9.rows (A := fun _ => False) fun _ _ q => q).go (x910.fr fun _ => False) (fun _ _ q => q) (fun _ _ q => q) fun _ _ r => r.go (x910.fr fun _ => False) (fun _ _ q => q.elim) (fun _ _ q => q.elim)
  have oks := endP_ok cs s0_ok
  obtain ⟨t1, t2, mid, hb, hmid⟩ := snaps_law (end_sn s0_sn hot) (objName x) hmn
  rw [hb] at hT0
  have ok2 := getT_ok oks (objName x)
  have hPl : (playP s0 cs).length = cs.length := playP_len _ _
  rw [hT0] at tr ⊢
  generalize getT (endP s0 cs).obj (objName x) = tG at *
  generalize playP s0 cs = P at *
  obtain ⟨T, hT⟩ : ∃ T, T = P ++ ([t1, t2, noT 0, tG] ++ mid ++ [tG]) := ⟨_, rfl⟩
  rw [← hT] at tr ⊢
  have hl : T.length = P.length + mid.length + 5 := by rw [hT]; simp; omega
  have i1 : T[P.length + 2]? = some (noT 0) := by rw [hT, List.getElem?_append_right (by omega), List.getElem?_append_left (by simp)]; simp
  have i2 : T[P.length + 3]? = some tG := by rw [hT, List.getElem?_append_right (by omega), List.getElem?_append_left (by simp)]; simp
  have i3 : T[P.length + mid.length + 4]? = some tG := by
    rw [hT, List.getElem?_append_right (by omega), List.getElem?_append_right (by simp; omega)]
    simp
    rw [show P.length + mid.length + 4 - P.length - (mid.length + 1 + 1 + 1 + 1) = 0 from by omega]; rfl
  have v1 : wrapA .i64 (((cs.length + 3 : Nat) : Int) - 1) = ((P.length + 2 : Nat) : Int) := by rw [wA (by omega) (by omega)]; omega
  have v2 : ((cs.length + 3 : Nat) : Int) = ((P.length + 3 : Nat) : Int) := by omega
  have v3 : wrapA .i64 (((T.length : Nat) : Int) - 1) = ((P.length + mid.length + 4 : Nat) : Int) := by rw [wA (by omega) (by omega)]; omega
  rw [v1, v2, v3]
  obtain ⟨r1, ⟨d1, u1, hr1, _, _⟩, _, rd1⟩ := tr.read0 (R := AV × AHeap × Nat) i1 (by decide)
  rw [rd1 (.int .i64 0) _ (by rw [hr1]; rfl)]
  simp only [mst_, mst5_]
  rw [if_pos (by decide)]
  obtain ⟨r2, q2, _, rd2, _⟩ := tr.read (R := AV × AHeap × Nat) i2
  rw [rd2]
  have q2' := q2
  obtain ⟨_, _, rfl, ⟨_, _, rfl, _, _⟩, ⟨_, _, rfl, _⟩⟩ := q2
  simp only [mst_, mst5_]
  obtain ⟨r3, q3, _, rd3, _⟩ := tr.read (R := AV × AHeap × Nat) i3
  rw [rd3]
  have q3' := q3
  obtain ⟨_, _, rfl, ⟨_, _, rfl, _, _⟩, ⟨_, _, rfl, _⟩⟩ := q3
  simp only [mst_, mst5_]
  obtain ⟨h11, n11, e11, x11⟩ := same_told (n := 9000) (by omega) Y0 q2' q3' ok2.1 ok2.2
  rw [e11]
  simp only [mst_, mst5_]
  exact ⟨_, _, rfl⟩
end Go.Proofs.Ytncmdbpoceilgaa.T
